/-
  The walks of the functions that the laws of this seat reach, part 3: each returns what its plain counterpart tells, and turns nothing that was there.
-/
import Derived.Test.YtieckcbckgalhaaGreatDoorProg
import Derived.Test.YtieckcbckgalhaaGreatDoorEnv
import Derived.Test.YtieckcbckgalhaaGreatDoorPlain
import Derived.Test.YtieckcbckgalhaaGreatDoorBase
import Derived.Test.YtieckcbckgalhaaGreatDoorOrd
import Derived.Test.YtieckcbckgalhaaGreatDoorRel
import Derived.Test.YtieckcbckgalhaaGreatDoorClo
import Derived.Test.YtieckcbckgalhaaGreatDoorCov
import Derived.Test.YtieckcbckgalhaaGreatDoorArr
import Derived.Test.YtieckcbckgalhaaGreatDoorHas
import Derived.Test.YtieckcbckgalhaaGreatDoorGrd
import Derived.Test.YtieckcbckgalhaaGreatDoorStr
import Derived.Test.YtieckcbckgalhaaGreatDoorVu
import Derived.Test.YtieckcbckgalhaaGreatDoorShp
import Derived.Test.YtieckcbckgalhaaGreatDoorShl
import Derived.Test.YtieckcbckgalhaaGreatDoorShq
import Derived.Test.YtieckcbckgalhaaGreatDoorShr
import Derived.Test.YtieckcbckgalhaaGreatDoorCut
import Derived.Test.YtieckcbckgalhaaGreatDoorRec
import Derived.Test.YtieckcbckgalhaaGreatDoorOut
import Derived.Test.YtieckcbckgalhaaGreatDoorScp
import Derived.Test.YtieckcbckgalhaaGreatDoorScq
import Derived.Test.YtieckcbckgalhaaGreatDoorByt
import Derived.Test.YtieckcbckgalhaaGreatDoorNod
import Derived.Test.YtieckcbckgalhaaGreatDoorSpl
import Derived.Test.YtieckcbckgalhaaGreatDoorSpb
import Derived.Test.YtieckcbckgalhaaGreatDoorSpt
import Derived.Test.YtieckcbckgalhaaGreatDoorSpn
import Derived.Test.YtieckcbckgalhaaGreatDoorSpx
import Derived.Test.YtieckcbckgalhaaGreatDoorSpy
import Derived.Test.YtieckcbckgalhaaGreatDoorMk
import Derived.Test.YtieckcbckgalhaaGreatDoorAsn
import Derived.Test.YtieckcbckgalhaaGreatDoorAsp
import Derived.Test.YtieckcbckgalhaaGreatDoorAsr
import Derived.Test.YtieckcbckgalhaaGreatDoorAst
import Derived.Test.YtieckcbckgalhaaGreatDoorMin
import Derived.Test.YtieckcbckgalhaaGreatDoorAssignTellsPacesB
namespace Go.Proofs.YtieckcbckgalhaaGreatDoor.W
open Go Go.RowKit Go.Proofs.YtieckcbckgalhaaGreatDoor.E Go.Proofs.YtieckcbckgalhaaGreatDoor.M
set_option linter.unusedVariables false
set_option linter.unusedSimpArgs false
set_option maxRecDepth 100000
open Tryz
theorem s_list (v1 v2 : Value) (l : List NodeR) (ws : List Wd) (hb1 : ((upto l.length).map fun i => (kidT l i).size + 1).sum ≤ 999999996) (hb2 : ((upto ws.length).map fun i => (wdT ws i).size + 1).sum ≤ 999999996) (hx : ∀ x ∈ l, TxN x.nd) (w : World) (hs : Sl w v1 5 l.length (l.flatMap nodeL)) (hv : NodesV (Kw w) l) (ht : Sl w v2 2 ws.length (ws.flatMap wdL)) (ih : ∀ x ∈ l, TxN x.nd → ∀ w, NodeV (Kw w) x → Calls Tryz.prog 66 #[.agg (nodeL x).toArray] w (Pure (S (textF x.nd)) w)) : Calls Tryz.prog 95 #[v1, v2] w (Pure (S (commasTo (kidT l) l.length ++ commasTo (wdT ws) ws.length)) w) := by
 have hm := hs.small
 unfold maxLen at hm
 have hm2 := ht.small
 unfold maxLen at hm2
 refine enter Tryz.func95 rfl Tryz.ntmps95 rfl <| have hH := Hp.start w; SR <| va (v := .string ⟨#[]⟩) rfl <| RL.nil <| SR <| va (v := .string ⟨#[]⟩) rfl <| RL.nil <| CW.seq <| SR <| va (v := I 0) rfl <| RL.nil <| CW.block <| CW.loop (G := Int) (fun k s' w' => (Fr (5 :: 6 :: (rg 8 17 [])) _ s') ∧ (Hp w w' _) ∧ (s' 5 = S (commasTo (kidT l) k)) ∧ (s' 6 = I k) ∧ (0 ≤ k) ∧ (k ≤ l.length)) (fun k => (l.length - k).toNat) (0) ⟨Fr.refl _ _, hH, rfl, rfl, (by omega), (by omega)⟩ <| ?_
 rintro k sg1 w1 ⟨fr1, hH1, e5_1, e6_1, h0, hk⟩
 have e0_1 := (fr1 0 rfl).trans (by conv => lhs; whnf)
 have e1_1 := (fr1 1 rfl).trans (by conv => lhs; whnf)
 have e4_1 := fr1.ss 4 rfl rfl
 refine CW.seq <| SR <| vm e6_1 <| vm e0_1 <| V (run_lenSl (hs.hp hH1) rfl underlying94 rfl) <| V (run_lss rfl rfl) <| RL.nil <| CW.condP rfl (fun h3 => ?_) (fun h3 => ?_)
 ·refine CW.skip <| CW.seq <| CW.block <| CW.seq <| SR <| vm e6_1 <| V (run_gtr rfl rfl) <| RL.nil <| CW.condP rfl (fun h5 => ?_) (fun h5 => ?_)
  ·refine CW.region <| vm e5_1 <| V (run_addS rfl rfl (by ((have hq := T_sz (kidT l) h0 ‹k < l.length›)); (try simp only [kidT, wdT] at hq hb1 hb2 ⊢); (try simp only [kidT, wdT] at hq2); (try simp only [tx_size_app]); (try simp only [tsz1, tsz2]); omega)) <| va (v := .string _) rfl <| RL.nil <| CW.region <| vm (v := .string _) rfl <| vm e0_1 <| vm e6_1 <| V (run_indexAddrS (hs.hp hH1) underlying94 sizeOf96 rfl rfl (by omega)) <| V (run_ldE (dv := node0) nodeL_len (hs.hp hH1) underlying96 rfl rfl rfl (by omega)) <| RL.callP rfl hH1 (ih _ (List.mem_of_getElem? (getD_at (d := node0) h0 ‹k < _›)) (hx _ (List.mem_of_getElem? (getD_at (d := node0) h0 ‹k < _›))) _ (NodeV.mono hH1.kw (hv.at h0 ‹_›))) (run_call1 call66 rfl) <| fun w6 hH7 => V (run_addS rfl rfl (by ((have hq := T_sz (kidT l) h0 ‹k < l.length›)); (try simp only [kidT, wdT] at hq hb1 hb2 ⊢); (try simp only [kidT, wdT] at hq2); (try simp only [tx_size_app]); (try simp only [tsz1, tsz2]); omega)) <| va (v := .string _) rfl <| RL.nil <| CW.region <| vm e6_1 <| V (run_add rfl rfl (by omega)) <| aI rfl <| RL.nil <| ?_
   refine ⟨k + 1, ?_, fr1.u4.u4.u4.u4.u4, hH7, (congrArg S (by exact commas_2 ‹0 < k›)), (congrArg I (by rfl)), ?_, ?_⟩
   ·((try dsimp only); omega)
   ·omega
   ·omega
  ·refine CW.skip <| CW.region <| vm e5_1 <| vm e0_1 <| vm e6_1 <| V (run_indexAddrS (hs.hp hH1) underlying94 sizeOf96 rfl rfl (by omega)) <| V (run_ldE (dv := node0) nodeL_len (hs.hp hH1) underlying96 rfl rfl rfl (by omega)) <| RL.callP rfl hH1 (ih _ (List.mem_of_getElem? (getD_at (d := node0) h0 ‹k < _›)) (hx _ (List.mem_of_getElem? (getD_at (d := node0) h0 ‹k < _›))) _ (NodeV.mono hH1.kw (hv.at h0 ‹_›))) (run_call1 call66 rfl) <| fun w8 hH9 => V (run_addS rfl rfl (by ((have hq := T_sz (kidT l) h0 ‹k < l.length›)); (try simp only [kidT, wdT] at hq hb1 hb2 ⊢); (try simp only [kidT, wdT] at hq2); (try simp only [tx_size_app]); (try simp only [tsz1, tsz2]); omega)) <| va (v := .string _) rfl <| RL.nil <| CW.region <| vm e6_1 <| V (run_add rfl rfl (by omega)) <| aI rfl <| RL.nil <| ?_
   refine ⟨k + 1, ?_, fr1.u4.u4.u4.u4.u1, hH9, (congrArg S (by exact commas_1 (by omega))), (congrArg I (by rfl)), ?_, ?_⟩
   ·((try dsimp only); omega)
   ·omega
   ·omega
 ·refine CW.exit (id := 0) rfl <| CW.seq <| SR <| va (v := I 0) rfl <| RL.nil <| CW.block <| CW.loop (G := Int) (fun j s' w' => (Fr (5 :: (7 :: (rg 25 17 []))) _ s') ∧ (Hp w w' _) ∧ (s' 5 = S (commasTo (kidT l) l.length ++ commasTo (wdT ws) j)) ∧ (s' 7 = I j) ∧ (0 ≤ j) ∧ (j ≤ ws.length)) (fun j => (ws.length - j).toNat) (0) ⟨Fr.refl _ _, hH1, (Eq.trans e5_1 (congrArg S (by rw [commas_0, tx_app0, show (l.length : Int) = k by omega]))), rfl, (by omega), (by omega)⟩ <| ?_
  rintro j sg10 w10 ⟨fr10, hH10, e5_10, e7_10, j0, jk⟩
  have e1_10 := (fr10 1 rfl).trans e1_1
  refine CW.seq <| SR <| vm e7_10 <| vm e1_10 <| V (run_lenSl (ht.hp hH10) rfl underlying93 rfl) <| V (run_lss rfl rfl) <| RL.nil <| CW.condP rfl (fun h12 => ?_) (fun h12 => ?_)
  ·refine CW.skip <| CW.seq <| CW.block <| CW.seq <| SR <| vm e7_10 <| V (run_gtr rfl rfl) <| RL.nil <| CW.condP rfl (fun h14 => ?_) (fun h14 => ?_)
   ·refine CW.region <| vm e5_10 <| V (run_addS rfl rfl (by (((have hq := T_sz (wdT ws) j0 ‹j < ws.length›; have hq2 := commasTo_sz (kidT l) (k := l.length) (n := l.length) (by omega)))); (try simp only [kidT, wdT] at hq hb1 hb2 ⊢); (try simp only [kidT, wdT] at hq2); (try simp only [tx_size_app]); (try simp only [tsz1, tsz2]); omega)) <| va (v := .string _) rfl <| RL.nil <| CW.region <| vm (v := .string _) rfl <| vm e1_10 <| vm e7_10 <| V (run_indexAddrS (ht.hp hH10) underlying93 sizeOf128 rfl rfl (by omega)) <| V (fA underlying128 0 rfl sizeOf9 rfl) <| V (run_ldE1 (dv := wd0) (off := 0) wdL_len (ht.hp hH10) underlying9 rfl rfl (by omega) rfl) <| V (run_addS rfl rfl (by (((have hq := T_sz (wdT ws) j0 ‹j < ws.length›; have hq2 := commasTo_sz (kidT l) (k := l.length) (n := l.length) (by omega)))); (try simp only [kidT, wdT] at hq hb1 hb2 ⊢); (try simp only [kidT, wdT] at hq2); (try simp only [tx_size_app]); (try simp only [tsz1, tsz2]); omega)) <| va (v := .string _) rfl <| RL.nil <| CW.region <| vm e7_10 <| V (run_add rfl rfl (by omega)) <| aI rfl <| RL.nil <| ?_
    refine ⟨j + 1, ?_, fr10.u4.u4.u4.u4.u4, hH10, (congrArg S (by exact commas_2a _ ‹0 < j›)), (congrArg I (by rfl)), ?_, ?_⟩
    ·((try dsimp only); omega)
    ·omega
    ·omega
   ·refine CW.skip <| CW.region <| vm e5_10 <| vm e1_10 <| vm e7_10 <| V (run_indexAddrS (ht.hp hH10) underlying93 sizeOf128 rfl rfl (by omega)) <| V (fA underlying128 0 rfl sizeOf9 rfl) <| V (run_ldE1 (dv := wd0) (off := 0) wdL_len (ht.hp hH10) underlying9 rfl rfl (by omega) rfl) <| V (run_addS rfl rfl (by (((have hq := T_sz (wdT ws) j0 ‹j < ws.length›; have hq2 := commasTo_sz (kidT l) (k := l.length) (n := l.length) (by omega)))); (try simp only [kidT, wdT] at hq hb1 hb2 ⊢); (try simp only [kidT, wdT] at hq2); (try simp only [tx_size_app]); (try simp only [tsz1, tsz2]); omega)) <| va (v := .string _) rfl <| RL.nil <| CW.region <| vm e7_10 <| V (run_add rfl rfl (by omega)) <| aI rfl <| RL.nil <| ?_
    refine ⟨j + 1, ?_, fr10.u4.u4.u4.u4.u1, hH10, (congrArg S (by exact commas_1a _ (by omega))), (congrArg I (by rfl)), ?_, ?_⟩
    ·((try dsimp only); omega)
    ·omega
    ·omega
  ·refine CW.exit (id := 2) rfl <| SR <| vm e5_10 <| va (v := .string _) rfl <| RL.nil <| CW.ret <| outP1 Tryz.results95 ?_ hH10.below
   exact congrArg S (by rw [show (ws.length : Int) = j by omega])
theorem s_text10 (n : NodeR) (htx : TxN n.nd) (w : World) (hn : NodeV (Kw w) n) (hLN : ∀ (v : Value) {w : World}, Sl w v 2 n.names.length (n.names.flatMap wdL) → Calls Tryz.prog 95 #[.slice none 0 0, v] w (Pure (S (namesT n.nd.names)) w)) (hLK : ∀ (v : Value) {w : World}, Sl w v 5 n.kids.length (n.kids.flatMap nodeL) → NodesV (Kw w) n.kids → Calls Tryz.prog 95 #[v, .slice none 0 0] w (Pure (S (commasF (n.nd.kids.map textF))) w)) : Calls Tryz.prog 66 #[.agg (nodeL n).toArray] w (Pure (S (textF n.nd)) w) := by
 have hm1 := hn.kids_.small
 have hm2 := hn.names_.small
 unfold maxLen at hm1 hm2
 have hkd := htx.kind
 rw [nd_kind] at hkd
 refine enter Tryz.func66 rfl Tryz.ntmps66 rfl <| have hH := Hp.start w; SR <| RL.new rfl hH (f := fun b => (.pointer (some ⟨b, 0, none⟩))) (run_box (v := .agg _) rfl) <| fun b3 w1 hH2 => va (v := .string ⟨#[]⟩) rfl <| RL.nil <| CW.seq <| SR <| V (fA underlying96 0 rfl sizeOf3 rfl) <| V (run_ld underlying3 rfl rfl (hH2.cell (i := 0) rfl (v := I _) rfl)) <| RL.nil <| CW.block <| CW.seq <| SR <| V (run_eql rfl rfl) <| aB rfl <| RL.nil <| CW.condP rfl (fun h5 => ?_) (fun h5 => ?_)
 ·refine CW.skip <| CW.condT (bT h5) <| SR <| V (fA underlying96 2 rfl sizeOf9 rfl) <| V (run_ld underlying9 rfl rfl (hH2.cell (i := 0) rfl (v := .string _) rfl)) <| va (v := .string _) rfl <| RL.nil <| CW.ret <| outP1 Tryz.results66 ?_ hH2.below
  (refine congrArg S ?_; ((rw [text_eq, nd_kind, if_pos (.inl ‹n.kind = 1›), nd_text]; done)))
 ·refine CW.region <| V (run_eql rfl rfl) <| aB rfl <| RL.nil <| CW.condP rfl (fun h7 => ?_) (fun h7 => ?_)
  ·refine SR <| V (fA underlying96 2 rfl sizeOf9 rfl) <| V (run_ld underlying9 rfl rfl (hH2.cell (i := 0) rfl (v := .string _) rfl)) <| va (v := .string _) rfl <| RL.nil <| CW.ret <| outP1 Tryz.results66 ?_ hH2.below
   (refine congrArg S ?_; ((rw [text_eq, nd_kind, if_pos (.inr ‹n.kind = 2›), nd_text]; done)))
  ·refine SR <| V (run_eql rfl rfl) <| aB rfl <| RL.nil <| CW.condP rfl (fun h9 => ?_) (fun h9 => ?_)
   ·refine SR <| V (fA underlying96 3 rfl sizeOf93 rfl) <| V (run_ldV (hn.names_.sl.hp hH2) underlying93 rfl rfl (hH2.cell (i := 0) rfl rfl)) <| RL.callP rfl hH2 (hLN _ (hn.names_.sl.hp hH2)) (run_call2 call95 (show _ = Value.slice none 0 0 from rfl) rfl) <| fun w10 hH11 => V (run_addS rfl rfl (by have ha := htx.nmT; have hb := htx.kdT; have hc := htx.txT; rw [nd_text] at hc; (try simp only [tx_size_app]); (try simp only [tsz1, tsz2]); omega)) <| V (run_addS rfl rfl (by have ha := htx.nmT; have hb := htx.kdT; have hc := htx.txT; rw [nd_text] at hc; (try simp only [tx_size_app]); (try simp only [tsz1, tsz2]); omega)) <| va (v := .string _) rfl <| RL.nil <| CW.ret <| outP1 Tryz.results66 ?_ hH11.below
    (refine congrArg S ?_; ((rw [text_eq, nd_kind, if_neg (by omega), if_pos ‹n.kind = 3›]; rfl)))
   ·refine SR <| V (run_eql rfl rfl) <| aB rfl <| RL.nil <| CW.condP rfl (fun h13 => ?_) (fun h13 => ?_)
    ·refine SR <| V (fA underlying96 4 rfl sizeOf94 rfl) <| V (run_ldV (hn.kids_.sl.hp hH2) underlying94 rfl rfl (hH2.cell (i := 0) rfl rfl)) <| RL.callP rfl hH2 (hLK _ (hn.kids_.sl.hp hH2) ⟨(NodeV.mono hH2.kw hn).each⟩) (run_call2 call95 rfl (show _ = Value.slice none 0 0 from rfl)) <| fun w14 hH15 => V (run_addS rfl rfl (by have ha := htx.nmT; have hb := htx.kdT; have hc := htx.txT; rw [nd_text] at hc; (try simp only [tx_size_app]); (try simp only [tsz1, tsz2]); omega)) <| V (run_addS rfl rfl (by have ha := htx.nmT; have hb := htx.kdT; have hc := htx.txT; rw [nd_text] at hc; (try simp only [tx_size_app]); (try simp only [tsz1, tsz2]); omega)) <| va (v := .string _) rfl <| RL.nil <| CW.ret <| outP1 Tryz.results66 ?_ hH15.below
     (refine congrArg S ?_; ((rw [text_eq, nd_kind, if_neg (by omega), if_neg (by omega), if_pos ‹n.kind = 4›]; rfl)))
    ·refine SR <| V (run_eql rfl rfl) <| aB rfl <| RL.nil <| CW.condP rfl (fun h17 => ?_) (fun h17 => ?_)
     ·refine SR <| V (fA underlying96 4 rfl sizeOf94 rfl) <| V (run_ldV (hn.kids_.sl.hp hH2) underlying94 rfl rfl (hH2.cell (i := 0) rfl rfl)) <| RL.callP rfl hH2 (hLK _ (hn.kids_.sl.hp hH2) ⟨(NodeV.mono hH2.kw hn).each⟩) (run_call2 call95 rfl (show _ = Value.slice none 0 0 from rfl)) <| fun w18 hH19 => V (run_addS rfl rfl (by have ha := htx.nmT; have hb := htx.kdT; have hc := htx.txT; rw [nd_text] at hc; (try simp only [tx_size_app]); (try simp only [tsz1, tsz2]); omega)) <| V (run_addS rfl rfl (by have ha := htx.nmT; have hb := htx.kdT; have hc := htx.txT; rw [nd_text] at hc; (try simp only [tx_size_app]); (try simp only [tsz1, tsz2]); omega)) <| va (v := .string _) rfl <| RL.nil <| CW.ret <| outP1 Tryz.results66 ?_ hH19.below
      (refine congrArg S ?_; ((rw [text_eq, nd_kind, if_neg (by omega), if_neg (by omega), if_neg (by omega), if_pos ‹n.kind = 5›]; rfl)))
     ·refine SR <| V (run_eql rfl rfl) <| aB rfl <| RL.nil <| CW.condP rfl (fun h21 => ?_) (fun h21 => ?_)
      ·refine CW.seq <| CW.regionD (by kernel_rfl) hH2 <| fun w22 hH23 => have zh23 := hH23.sub sR; AQ 0 rfl zh23 (fA underlying96 2 rfl sizeOf9 rfl) <| AT 1 rfl zh23 (fun w hS => run_ld underlying9 rfl rfl (hS.cell (i := 0) rfl (v := .string _) rfl)) <| AQ 2 rfl zh23 (run_addS rfl rfl (by have ha := htx.nmT; have hb := htx.kdT; have hc := htx.txT; rw [nd_text] at hc; (try simp only [tx_size_app]); (try simp only [tsz1, tsz2]); omega)) <| AQ 3 rfl zh23 (fA underlying96 3 rfl sizeOf93 rfl) <| AT 4 rfl zh23 (fun w hS => run_ldV (hn.names_.sl.hp hS) underlying93 rfl rfl (hS.cell (i := 0) rfl rfl)) <| A1 5 <| AO.callP rfl gnone rfl hH23 sR (hLN _ (hn.names_.sl.hp hH23)) (run_call2 call95 (show _ = Value.slice none 0 0 from rfl) rfl) <| fun w24 hH25 => have zh25 := hH25.sub sR; AQ 6 rfl zh25 (run_addS rfl rfl (by have ha := htx.nmT; have hb := htx.kdT; have hc := htx.txT; rw [nd_text] at hc; (try simp only [tx_size_app]); (try simp only [tsz1, tsz2]); omega)) <| AQ 7 rfl zh25 (run_addS rfl rfl (by have ha := htx.nmT; have hb := htx.kdT; have hc := htx.txT; rw [nd_text] at hc; (try simp only [tx_size_app]); (try simp only [tsz1, tsz2]); omega)) <| AQ 8 rfl zh25 (aV (.string _) rfl) <| AD <| CW.ret <| outP1 Tryz.results66 ?_ hH25.below
       (refine congrArg S ?_; ((rw [text_eq, nd_kind, if_neg (by omega), if_neg (by omega), if_neg (by omega), if_neg (by omega), if_pos ‹n.kind = 6›, nd_text]; rfl)))
      ·refine SR <| V (run_eql rfl rfl) <| aB rfl <| RL.nil <| CW.condF (bF ((by omega))) <| SR <| V (run_eql rfl rfl) <| aB rfl <| RL.nil <| CW.condF (bF ((by omega))) <| SR <| V (run_eql rfl rfl) <| aB rfl <| RL.nil <| CW.condF (bF ((by omega))) <| SR <| V (run_eql rfl rfl) <| aB rfl <| RL.nil <| CW.condF (bF ((by omega))) <| SR <| V (run_eql rfl rfl) <| aB rfl <| RL.nil <| CW.condF (bF ((by omega))) <| CW.skip <| SR <| va (v := .string ⟨#[]⟩) rfl <| RL.nil <| CW.ret <| outP1 Tryz.results66 ?_ hH2.below
       (refine congrArg S ?_; (rw [text_eq, nd_kind, if_neg (by omega), if_neg (by omega), if_neg (by omega), if_neg (by omega), if_neg (by omega)]))
theorem c_clearanceref10_Text (n : NodeR) : TxN n.nd → ∀ w, NodeV (Kw w) n → Calls Tryz.prog 66 #[.agg (nodeL n).toArray] w (Pure (S (textF n.nd)) w) := node_ind (C := fun n => TxN n.nd → ∀ w, NodeV (Kw w) n → Calls Tryz.prog 66 #[.agg (nodeL n).toArray] w (Pure (S (textF n.nd)) w)) (fun n ih htx w hn => s_text10 n htx w hn
 (fun v w hs => by
  have h := s_list (.slice none 0 0) v [] n.names (by decide) (names_bd htx) (fun x hx => by simp at hx) w (Sl.nil _ _) (NodesV.nil _) hs (fun x hx => by simp at hx)
  rw [list_names] at h; exact h)
 (fun v w hs hv => by
  have h := s_list v (.slice none 0 0) n.kids [] (kids_bd htx) (by decide) (fun x hx => htx.kidR hx) w hs hv (Sl.nil _ _) ih
  rw [list_kids] at h; exact h)) n
theorem c_spell_Text (s : Shp) (e : El) (w : World) (hs : ShpV (Kw w) s) (hT : Tab w) : Calls Tryz.prog 33 #[.agg (shpC s), .agg (elC e)] w (Pure (S (spellF s.sh e)) w) := by
 refine enter Tryz.func33 rfl Tryz.ntmps33 rfl <| have hH := Hp.start w; SR <| RL.new rfl hH (f := fun b => (.pointer (some ⟨b, 0, none⟩))) (run_box (v := .agg _) rfl) <| fun b3 w1 hH2 => RL.new rfl hH2 (f := fun b => (.pointer (some ⟨b, 0, none⟩))) (run_box (v := .agg _) rfl) <| fun b6 w4 hH5 => va (v := .string ⟨#[]⟩) rfl <| RL.nil <| SR <| V (run_ldA (cs := [B _, _]) underlying42 rfl rfl rfl (rangeAt_cells (hH5.blk (i := 1) rfl))) <| V (run_ldEl underlying51 rfl rfl rfl (hH5.blk (i := 0) rfl)) <| RL.callF rfl hH5 (c_spell_Node (Kw w) s e _ hH5.kw hs (hT.hp hH5)) (run_call2 call65 rfl rfl) <| fun v9 w10 Z12 hH11 hp13 => have hH14 : Hp _ w10 (_ :: _ :: Z12) := hH11.zin0 (L := [_, _]); ?_
 obtain ⟨n15, rfl, nd16, nv17⟩ := hp13
 refine RL.callP rfl hH14 (c_term_Text n15 (by rw [nd16]; exact node_tx _ _) _ (NodeV.mono (hH14.kz (Le.refl _) (fun x hx => (mT (mT hx)))) nv17)) (run_call1 call64 rfl) <| fun w18 hH19 => V (run_addS rfl rfl (by rw [nd16]; have hq := (node_tx s.sh e).text; (try simp only [tx_size_app]); (try simp only [tsz1, tsz2, *]); omega)) <| va (v := .string _) rfl <| RL.nil <| CW.ret <| outP1 Tryz.results33 ?_ hH19.below
 (rw [nd16]; rfl)
theorem c_clearanceref11_Text (s : Shp) (e : El) (w : World) (hs : ShpV (Kw w) s) : Calls Tryz.prog 36 #[.agg (shpC s), .agg (elC e)] w (Pure (S (spellF s.sh e)) w) := by
 refine enter Tryz.func36 rfl Tryz.ntmps36 rfl <| have hH := Hp.start w; SR <| RL.new rfl hH (f := fun b => (.pointer (some ⟨b, 0, none⟩))) (run_box (v := .agg _) rfl) <| fun b3 w1 hH2 => RL.new rfl hH2 (f := fun b => (.pointer (some ⟨b, 0, none⟩))) (run_box (v := .agg _) rfl) <| fun b6 w4 hH5 => va (v := .string ⟨#[]⟩) rfl <| RL.nil <| SR <| V (run_ldA (cs := [B _, _]) underlying42 rfl rfl rfl (rangeAt_cells (hH5.blk (i := 1) rfl))) <| V (run_ldEl underlying51 rfl rfl rfl (hH5.blk (i := 0) rfl)) <| RL.callF rfl hH5 (c_clearanceref11_Node (Kw w) s e _ hH5.kw hs) (run_call2 call67 rfl rfl) <| fun v9 w10 Z12 hH11 hp13 => have hH14 : Hp _ w10 (_ :: _ :: Z12) := hH11.zin0 (L := [_, _]); ?_
 obtain ⟨n15, rfl, nd16, nv17⟩ := hp13
 refine RL.callP rfl hH14 (c_clearanceref10_Text n15 (by rw [nd16]; exact node_tx _ _) _ (NodeV.mono (hH14.kz (Le.refl _) (fun x hx => (mT (mT hx)))) nv17)) (run_call1 call66 rfl) <| fun w18 hH19 => V (run_addS rfl rfl (by rw [nd16]; have hq := (node_tx s.sh e).text; (try simp only [tx_size_app]); (try simp only [tsz1, tsz2, *]); omega)) <| va (v := .string _) rfl <| RL.nil <| CW.ret <| outP1 Tryz.results36 ?_ hH19.below
 (rw [nd16]; rfl)
theorem c_assign_place (v : Value) (l : List ValR) (f : Tx) (w : World) (hs : Sl w v 9 l.length (l.flatMap valL)) : Calls Tryz.prog 51 #[v, S f] w (Pure (I (vfind l f)) w) := by
 have hm := hs.small
 unfold maxLen at hm
 refine enter Tryz.func51 rfl Tryz.ntmps51 rfl <| have hH := Hp.start w; SR <| va (v := I 0) rfl <| RL.nil <| CW.seq <| SR <| ?_
 refine V (run_move (by conv => lhs; whnf)) ?_
 refine V (run_lenSl (hs.hp hH) rfl underlying48 rfl) <| vm (v := I 0) rfl <| RL.nil <| CW.block <| CW.loop (G := Int) (fun k s' w' => (Fr (4 :: 5 :: (rg 8 12 [])) _ s') ∧ (Hp w w' _) ∧ (s' 8 = I k) ∧ (0 ≤ k) ∧ (k ≤ l.length) ∧ (∀ j : Int, 0 ≤ j → j < k → decide ((l.getD j.toNat val0).name = f) = false)) (fun k => (l.length - k).toNat) (0) ⟨Fr.refl _ _, hH, rfl, (by omega), (by omega), fun j a b => absurd b (by omega)⟩ <| ?_
 rintro k sg1 w1 ⟨fr1, hH1, e8_1, h0, hk, hg⟩
 have e0_1 := (fr1 0 rfl).trans (by conv => lhs; whnf)
 have e1_1 := fr1.ss 1 rfl rfl
 have e7_1 := fr1.ii 7 rfl rfl
 refine SR <| V (run_lss e8_1 e7_1) <| RL.nil <| CW.seq <| CW.condP rfl (fun h3 => ?_) (fun h3 => ?_)
 ·refine CW.skip <| CW.seq <| CW.block <| SR <| vm e8_1 <| aI rfl <| RL.nil <| SR <| vm e0_1 <| mI rfl <| V (run_indexAddrS (hs.hp hH1) underlying48 sizeOf53 rfl rfl (by omega)) <| V (fA underlying53 0 rfl sizeOf9 rfl) <| V (run_ldE1 (dv := val0) (off := 0) valL_len (hs.hp hH1) underlying9 rfl rfl (by omega) rfl) <| vm e1_1 <| V (run_eqlS rfl rfl) <| RL.nil <| CW.condP rfl (fun h5 => ?_) (fun h5 => ?_)
  ·refine SR <| mI rfl <| aI rfl <| RL.nil <| CW.ret <| outP1 Tryz.results51 (congrArg I ?_) hH1.below
   exact (find_yes h0 ‹_› (decide_eq_true ‹_›) hg).symm
  ·refine CW.skip <| CW.region <| V (run_add e8_1 rfl (by omega)) <| mI rfl <| RL.nil <| ?_
   refine ⟨k + 1, ?_, fr1.u4.u4.u4, hH1, (congrArg I (by rfl)), ?_, ?_, ?_⟩
   ·((try dsimp only); omega)
   ·omega
   ·omega
   ·exact fun j a b => if e : j = k then e ▸ decide_eq_false ‹_› else hg j a (by omega)
 ·refine CW.exit (id := 0) rfl <| SR <| va (v := I (-1)) rfl <| RL.nil <| CW.ret <| outP1 Tryz.results51 (congrArg I ?_) hH1.below
  exact (find_no fun j a b => hg j a (by omega)).symm
theorem c_assign_Get (v : Value) (l : List ValR) (f : Tx) (w : World) (hs : Sl w v 9 l.length (l.flatMap valL)) : Calls Tryz.prog 69 #[v, S f] w (Pure (.tuple #[.agg (elC (getF l f).1), B (getF l f).2]) w) := by
 have hm := hs.small
 unfold maxLen at hm
 have hvi := @vfind_in l f
 refine enter Tryz.func69 rfl Tryz.ntmps69 rfl <| have hH := Hp.start w; SR <| RL.new rfl hH (f := fun b => (.pointer (some ⟨b, 0, none⟩))) (run_alloc zero_el) <| fun b3 w1 hH2 => va (v := B false) rfl <| RL.nil <| SR <| ?_
 refine V (run_move (by conv => lhs; whnf)) ?_
 refine vm (v := .string _) rfl <| RL.callP rfl hH2 (c_assign_place _ _ _  _ (hs.hp hH2)) (run_call2 call51 rfl rfl) <| fun w4 hH5 => aI rfl <| RL.nil <| CW.seq <| SR <| mI rfl <| V (run_lss rfl rfl) <| RL.nil <| CW.condP rfl (fun h7 => ?_) (fun h7 => ?_)
 ·refine SR <| V (run_bld (vs := []) rfl (built_el0)) <| RL.set hH5 (i := 0) rfl (run_stEl rfl rfl rfl (hH5.blk (i := 0) rfl)) <| fun w8 hH9 => ?_
  simp only [z2] at hH9
  refine va (v := B false) rfl <| RL.nil <| CW.ret <| outCT Tryz.results69 rfl rfl hH9 (i := 0) rfl underlying51 rfl (by rw [elC_size]; rfl) ⟨?_, hH9.below⟩
  exact get_tn ‹_›
 ·refine CW.skip <| SR <| ?_
  refine V (run_move (by conv => lhs; whnf)) ?_
  refine mI rfl <| V (run_indexAddrS (hs.hp hH5) underlying48 sizeOf53 rfl rfl (by (have := hvi ‹_›; omega))) <| V (fA underlying53 1 rfl sizeOf51 rfl) <| V (run_ldVE (hs.hp hH5) underlying51 rfl rfl rfl (by (have := hvi ‹_›; omega))) <| RL.set hH5 (i := 0) rfl (run_stEl rfl rfl rfl (hH5.blk (i := 0) rfl)) <| fun w10 hH11 => ?_
  simp only [z2] at hH11
  refine va (v := B true) rfl <| RL.nil <| CW.ret <| outCT Tryz.results69 rfl rfl hH11 (i := 0) rfl underlying51 rfl (by rw [elC_size]; rfl) ⟨?_, hH11.below⟩
  exact get_ty ‹_›
theorem c_name_Less (a b : Tx) (w : World) : Calls Tryz.prog 52 #[S a, S b] w (Pure (B (lessT a b)) w) := by
 refine enter Tryz.func52 rfl Tryz.ntmps52 rfl <| have hH := Hp.start w; SR <| va (v := B false) rfl <| RL.nil <| SR <| vm (v := .string _) rfl <| vm (v := .string _) rfl <| V (run_lssS rfl rfl) <| aB rfl <| RL.nil <| CW.ret <| outP1 Tryz.results52 (congrArg B ?_) hH.below
 rfl
theorem c_clearanceref02_Less (a b : Tx) (hsz : a.size ≤ 1000 ∨ b.size ≤ 1000) (w : World) : Calls Tryz.prog 57 #[S a, S b] w (Pure (B (lessT a b)) w) := by
 refine enter Tryz.func57 rfl Tryz.ntmps57 rfl <| have hH := Hp.start w; SR <| va (v := B false) rfl <| RL.nil <| CW.seq <| SR <| va (v := I 0) rfl <| RL.nil <| CW.block <| CW.loop (G := Int) (fun k s' w' => (Fr (rg 4 28 []) _ s') ∧ (Hp w w' _) ∧ (s' 5 = I k) ∧ (0 ≤ k) ∧ (k ≤ a.size) ∧ (k ≤ b.size) ∧ (∀ j : Int, 0 ≤ j → j < k → byteAt a j = byteAt b j)) (fun k => (a.size - k).toNat) (0) ⟨Fr.refl _ _, hH, rfl, (by omega), (by omega), (by omega), fun j a b => absurd b (by omega)⟩ <| ?_
 rintro k sg1 w1 ⟨fr1, hH1, e5_1, h0, hk1, hk2, hg⟩
 have e0_1 := fr1.ss 0 rfl rfl
 have e1_1 := fr1.ss 1 rfl rfl
 refine CW.seq <| SR <| vm e5_1 <| vm e0_1 <| V (run_lenStr rfl underlying9 rfl) <| V (run_lss rfl rfl) <| mB rfl <| RL.splitP (dj := 10) rfl (fun h3 => ?_) (fun h3 => ?_)
 ·refine gT rfl (bT h3) <| vm e5_1 <| gT rfl (bT h3) <| vm e1_1 <| gT rfl (bT h3) <| V (run_lenStr rfl underlying9 rfl) <| gT rfl (bT h3) <| V (run_lss rfl rfl) <| V (run_pickT (bT h3) (v := B _) rfl) <| RL.nil <| CW.condP rfl (fun h5 => ?_) (fun h5 => ?_)
  ·refine CW.skip <| CW.seq <| CW.block <| CW.seq <| CW.regionD (by kernel_rfl) hH1 <| fun w6 hH7 => have zh7 := hH7.sub sR; AQ 0 rfl zh7 (run_move e0_1) <| AQ 1 rfl zh7 (run_move e5_1) <| AQ 2 rfl zh7 (run_idxS underlying9 rfl rfl (by omega)) <| AQ 3 rfl zh7 (run_move e1_1) <| AQ 4 rfl zh7 (run_move e5_1) <| AQ 5 rfl zh7 (run_idxS underlying9 rfl rfl (by omega)) <| AQ 6 rfl zh7 (run_neq rfl rfl) <| AD <| CW.condP rfl (fun h9 => ?_) (fun h9 => ?_)
   ·refine CW.seq <| CW.regionD (by kernel_rfl) hH7 <| fun w10 hH11 => have zh11 := hH11.sub sR; AQ 0 rfl zh11 (run_move e0_1) <| AQ 1 rfl zh11 (run_move e5_1) <| AQ 2 rfl zh11 (run_idxS underlying9 rfl rfl (by omega)) <| AQ 3 rfl zh11 (run_move e1_1) <| AQ 4 rfl zh11 (run_move e5_1) <| AQ 5 rfl zh11 (run_idxS underlying9 rfl rfl (by omega)) <| AQ 6 rfl zh11 (run_lss rfl rfl) <| AQ 7 rfl zh11 (aV (B _) rfl) <| AD <| CW.ret <| outP1 Tryz.results57 (congrArg B ?_) hH11.below
    exact less_at h0 (by omega) (by omega) hg ‹_›
   ·refine CW.skip <| CW.region <| vm e5_1 <| V (run_add rfl rfl (by omega)) <| aI rfl <| RL.nil <| ?_
    refine ⟨k + 1, ?_, fr1.u4.u4.u4.u4.u4, hH7, (congrArg I (by rfl)), ?_, ?_, ?_, ?_⟩
    ·((try dsimp only); omega)
    ·omega
    ·omega
    ·omega
    ·exact fun j u v => if e : j = k then e ▸ (by omega) else hg j u (by omega)
  ·refine CW.exit (id := 0) rfl <| SR <| vm e0_1 <| V (run_lenStr rfl underlying9 rfl) <| vm e1_1 <| V (run_lenStr rfl underlying9 rfl) <| V (run_lss rfl rfl) <| aB rfl <| RL.nil <| CW.ret <| outP1 Tryz.results57 (congrArg B ?_) hH1.below
   exact less_end h0 hk1 hk2 hg (by omega)
 ·refine gF rfl (bF h3) <| gF rfl (bF h3) <| gF rfl (bF h3) <| gF rfl (bF h3) <| V (run_pickF (bF h3) (v := B false) rfl) <| RL.nil <| CW.condF rfl <| CW.exit (id := 0) rfl <| SR <| vm e0_1 <| V (run_lenStr rfl underlying9 rfl) <| vm e1_1 <| V (run_lenStr rfl underlying9 rfl) <| V (run_lss rfl rfl) <| aB rfl <| RL.nil <| CW.ret <| outP1 Tryz.results57 (congrArg B ?_) hH1.below
  exact less_end h0 hk1 hk2 hg (by omega)
theorem c_assign_ordered (v : Value) (l : List ValR) (w : World) (hs : Sl w v 9 l.length (l.flatMap valL)) : Calls Tryz.prog 25 #[v] w (Pure (B (orderedF l)) w) := by
 have hm := hs.small
 unfold maxLen at hm
 refine enter Tryz.func25 rfl Tryz.ntmps25 rfl <| have hH := Hp.start w; SR <| va (v := B false) rfl <| RL.nil <| CW.seq <| SR <| ?_
 refine V (run_move (by conv => lhs; whnf)) ?_
 refine V (run_lenSl (hs.hp hH) rfl underlying48 rfl) <| vm (v := I 0) rfl <| RL.nil <| CW.block <| CW.loop (G := Int) (fun k s' w' => (Fr (rg 2 3 (rg 7 26 [])) _ s') ∧ (Hp w w' _) ∧ (s' 7 = I k) ∧ (0 ≤ k) ∧ (k ≤ l.length) ∧ (∀ j : Int, 0 ≤ j → j < k → (nameR (l.getD j.toNat val0).name && (decide (j ≤ 0) || lessT (l.getD (j - 1).toNat val0).name (l.getD j.toNat val0).name)) = true)) (fun k => (l.length - k).toNat) (0) ⟨Fr.refl _ _, hH, rfl, (by omega), (by omega), fun j a b => absurd b (by omega)⟩ <| ?_
 rintro k sg1 w1 ⟨fr1, hH1, e7_1, h0, hk, hg⟩
 have e0_1 := (fr1 0 rfl).trans (by conv => lhs; whnf)
 have e5_1 := (fr1 5 rfl).trans (by conv => lhs; whnf)
 have e6_1 := fr1.ii 6 rfl rfl
 refine SR <| V (run_lss e7_1 e6_1) <| RL.nil <| CW.seq <| CW.condP rfl (fun h3 => ?_) (fun h3 => ?_)
 ·refine CW.skip <| CW.seq <| CW.block <| SR <| vm e7_1 <| V (run_indexAddrS (hs.hp hH1) underlying48 sizeOf53 e5_1 e7_1 (by omega)) <| V (run_ldE (dv := val0) valL_len (hs.hp hH1) underlying53 rfl rfl rfl (by omega)) <| RL.new rfl hH1 (f := fun b => (.pointer (some ⟨b, 0, none⟩))) (run_alloc zero_val) <| fun b6 w4 hH5 => aI rfl <| RL.set hH5 (i := 0) rfl (run_stW (c' := (valL _).toArray) rfl rfl rfl (valL_one _) (hH5.blk (i := 0) rfl) rfl) <| fun w7 hH8 => ?_
  simp only [z2] at hH8
  refine RL.nil <| CW.seq <| CW.regionD (by kernel_rfl) hH8 <| fun w9 hH10 => AQ 0 rfl (hH10.sub sR) (fA underlying53 0 rfl sizeOf9 rfl) <| AT 1 rfl (hH10.sub sR) (fun w hS => run_ld underlying9 rfl rfl (hS.cell (i := 0) rfl (v := .string _) rfl)) <| A1 2 <| AO.callP rfl gnone rfl hH10 sR (c_name_Right _  _) (run_call1 call55 rfl) <| fun w11 hH12 => have zh12 := hH12.sub sR; AQ 3 rfl zh12 (run_not rfl) <| AQ 4 rfl zh12 (mV (B _) rfl) <| AN.split (dj := 16) rfl (fun h15 => ?_) (fun h15 => ?_)
  ·refine AK 5 rfl rfl (bR (c := true) h15) (hH12.sub sR) <| AK 6 rfl rfl (bR (c := true) h15) (hH12.sub sR) <| AK 7 rfl rfl (bR (c := true) h15) (hH12.sub sR) <| AU 8 rfl rfl rfl (hH12.sub sR) <| AU 9 rfl rfl rfl (hH12.sub sR) <| AU 10 rfl rfl rfl (hH12.sub sR) <| AU 11 rfl rfl rfl (hH12.sub sR) <| AU 12 rfl rfl rfl (hH12.sub sR) <| AU 13 rfl rfl rfl (hH12.sub sR) <| AU 14 rfl rfl rfl (hH12.sub sR) <| AU 15 rfl rfl rfl (hH12.sub sR) <| AU 16 rfl rfl rfl (hH12.sub sR) <| AU 17 rfl rfl rfl (hH12.sub sR) <| AK 18 rfl rfl (bR (c := true) h15) (hH12.sub sR) <| AQ 19 rfl zh12 (run_pickT (bR (c := true) h15) (v := B true) rfl) <| AD <| CW.condT rfl <| SR <| va (v := B false) rfl <| RL.nil <| CW.ret <| outP1 Tryz.results25 (congrArg B ?_) hH12.below
   exact (ordered_no1 h0 ‹k < _› (nt ‹(!nameR _) = true›)).symm
  ·refine AG 5 rfl rfl (bR (c := false) h15) (hH12.sub sR) (fun w hS => mV (I _) rfl) <| AG 6 rfl rfl (bR (c := false) h15) (hH12.sub sR) (fun w hS => run_gtr rfl rfl) <| AG 7 rfl rfl (bR (c := false) h15) (hH12.sub sR) (fun w hS => mV (B _) rfl) <| AN.splitP (dj := 19) rfl (fun h17 => ?_) (fun h17 => ?_)
   ·refine AG 8 rfl rfl (bT h17) (hH12.sub sR) (fun w hS => run_move e0_1) <| AG 9 rfl rfl (bT h17) (hH12.sub sR) (fun w hS => mV (I _) rfl) <| AG 10 rfl rfl (bT h17) (hH12.sub sR) (fun w hS => run_sub rfl rfl (by omega)) <| AG 11 rfl rfl (bT h17) (hH12.sub sR) (fun w hS => run_indexAddrS (hs.hp hS) underlying48 sizeOf53 rfl rfl (by omega)) <| AG 12 rfl rfl (bT h17) (hH12.sub sR) (fun w hS => fA underlying53 0 rfl sizeOf9 rfl) <| AG 13 rfl rfl (bT h17) (hH12.sub sR) (fun w hS => run_ldE1 (dv := val0) (off := 0) valL_len (hs.hp hS) underlying9 rfl rfl (by omega) rfl) <| AG 14 rfl rfl (bT h17) (hH12.sub sR) (fun w hS => fA underlying53 0 rfl sizeOf9 rfl) <| AG 15 rfl rfl (bT h17) (hH12.sub sR) (fun w hS => run_ld underlying9 rfl rfl (hS.cell (i := 0) rfl (v := .string _) rfl)) <| A1 16 <| AO.callP rfl (gsome rfl (bT h17)) rfl hH12 sR (c_name_Less _ _  _) (run_call2 call52 rfl rfl) <| fun w18 hH19 => AG 17 rfl rfl (bT h17) (hH19.sub sR) (fun w hS => run_not rfl) <| AG 18 rfl rfl (bR (c := false) h15) (hH19.sub sR) (fun w hS => run_pickT (bT h17) (v := B _) rfl) <| have zh19 := hH19.sub sR; AQ 19 rfl zh19 (run_pickF (bR (c := false) h15) (v := B _) rfl) <| AD <| CW.cond rfl (fun h22 => ?_) (fun h22 => ?_)
    ·refine SR <| va (v := B false) rfl <| RL.nil <| CW.ret <| outP1 Tryz.results25 (congrArg B ?_) hH19.below
     exact (ordered_no2 h0 ‹k < _› ‹0 < k› (nt ‹(!lessT _ _) = true›)).symm
    ·refine CW.skip <| CW.region <| V (run_add e7_1 rfl (by omega)) <| mI rfl <| RL.nil <| ?_
     refine ⟨k + 1, ?_, fr1.u4.u4.u4.u4.u4.u4.u4, (hH19.sub (sQ sR)), (congrArg I (by rfl)), ?_, ?_, ?_⟩
     ·((try dsimp only); omega)
     ·omega
     ·omega
     ·exact fun j a b => if e : j = k then e ▸ (by exact ord_y2 (nf ‹(!nameR _) = false›) (nf ‹(!lessT _ _) = false›)) else hg j a (by omega)
   ·refine AK 8 rfl rfl (bF h17) (hH12.sub sR) <| AK 9 rfl rfl (bF h17) (hH12.sub sR) <| AK 10 rfl rfl (bF h17) (hH12.sub sR) <| AK 11 rfl rfl (bF h17) (hH12.sub sR) <| AK 12 rfl rfl (bF h17) (hH12.sub sR) <| AK 13 rfl rfl (bF h17) (hH12.sub sR) <| AK 14 rfl rfl (bF h17) (hH12.sub sR) <| AK 15 rfl rfl (bF h17) (hH12.sub sR) <| AK 16 rfl rfl (bF h17) (hH12.sub sR) <| AK 17 rfl rfl (bF h17) (hH12.sub sR) <| AG 18 rfl rfl (bR (c := false) h15) (hH12.sub sR) (fun w hS => run_pickF (bF h17) (v := B false) rfl) <| AQ 19 rfl zh12 (run_pickF (bR (c := false) h15) (v := B _) rfl) <| AD <| CW.condF rfl <| CW.skip <| CW.region <| V (run_add e7_1 rfl (by omega)) <| mI rfl <| RL.nil <| ?_
    refine ⟨k + 1, ?_, fr1.u4.u4.u4.u4.u4.u4.u4, (hH12.sub (sQ sR)), (congrArg I (by rfl)), ?_, ?_, ?_⟩
    ·((try dsimp only); omega)
    ·omega
    ·omega
    ·exact fun j a b => if e : j = k then e ▸ (by exact ord_y1 (nf ‹_›) ‹¬ 0 < k›) else hg j a (by omega)
 ·refine CW.exit (id := 0) rfl <| SR <| va (v := B true) rfl <| RL.nil <| CW.ret <| outP1 Tryz.results25 (congrArg B ?_) hH1.below
  exact (ordered_yes ‹¬ k < _› hg).symm
theorem c_clearanceref18_ordered (v : Value) (l : List ValR) (w : World) (hs : Sl w v 9 l.length (l.flatMap valL)) : Calls Tryz.prog 28 #[v] w (Pure (B (orderedF l)) w) := by
 have hm := hs.small
 unfold maxLen at hm
 refine enter Tryz.func28 rfl Tryz.ntmps28 rfl <| have hH := Hp.start w; SR <| va (v := B false) rfl <| RL.nil <| CW.seq <| SR <| va (v := I 0) rfl <| RL.nil <| CW.block <| CW.loop (G := Int) (fun k s' w' => (Fr (rg 2 34 []) _ s') ∧ (Hp w w' _) ∧ (s' 3 = I k) ∧ (0 ≤ k) ∧ (k ≤ l.length) ∧ (∀ j : Int, 0 ≤ j → j < k → (nameR (l.getD j.toNat val0).name && (decide (j ≤ 0) || lessT (l.getD (j - 1).toNat val0).name (l.getD j.toNat val0).name)) = true)) (fun k => (l.length - k).toNat) (0) ⟨Fr.refl _ _, hH, rfl, (by omega), (by omega), fun j a b => absurd b (by omega)⟩ <| ?_
 rintro k sg1 w1 ⟨fr1, hH1, e3_1, h0, hk, hg⟩
 have e0_1 := (fr1 0 rfl).trans (by conv => lhs; whnf)
 refine CW.seq <| SR <| vm e3_1 <| vm e0_1 <| V (run_lenSl (hs.hp hH1) rfl underlying48 rfl) <| V (run_lss rfl rfl) <| RL.nil <| CW.condP rfl (fun h3 => ?_) (fun h3 => ?_)
 ·refine CW.skip <| CW.seq <| CW.block <| CW.seq <| CW.regionD (by kernel_rfl) hH1 <| fun w4 hH5 => have zh5 := hH5.sub sR; AQ 0 rfl zh5 (run_move e0_1) <| AQ 1 rfl zh5 (run_move e3_1) <| AT 2 rfl zh5 (fun w hS => run_indexAddrS (hs.hp hS) underlying48 sizeOf53 rfl rfl (by omega)) <| AQ 3 rfl zh5 (fA underlying53 0 rfl sizeOf9 rfl) <| AT 4 rfl zh5 (fun w hS => run_ldE1 (dv := val0) (off := 0) valL_len (hs.hp hS) underlying9 rfl rfl (by omega) rfl) <| A1 5 <| AO.callP rfl gnone rfl hH5 sR (c_clearanceref02_Right _  _) (run_call1 call49 rfl) <| fun w6 hH7 => have zh7 := hH7.sub sR; AQ 6 rfl zh7 (run_not rfl) <| AQ 7 rfl zh7 (mV (B _) rfl) <| AN.split (dj := 17) rfl (fun h10 => ?_) (fun h10 => ?_)
  ·refine AK 8 rfl rfl (bR (c := true) h10) (hH7.sub sR) <| AK 9 rfl rfl (bR (c := true) h10) (hH7.sub sR) <| AK 10 rfl rfl (bR (c := true) h10) (hH7.sub sR) <| AU 11 rfl rfl rfl (hH7.sub sR) <| AU 12 rfl rfl rfl (hH7.sub sR) <| AU 13 rfl rfl rfl (hH7.sub sR) <| AU 14 rfl rfl rfl (hH7.sub sR) <| AU 15 rfl rfl rfl (hH7.sub sR) <| AU 16 rfl rfl rfl (hH7.sub sR) <| AU 17 rfl rfl rfl (hH7.sub sR) <| AU 18 rfl rfl rfl (hH7.sub sR) <| AU 19 rfl rfl rfl (hH7.sub sR) <| AU 20 rfl rfl rfl (hH7.sub sR) <| AU 21 rfl rfl rfl (hH7.sub sR) <| AU 22 rfl rfl rfl (hH7.sub sR) <| AU 23 rfl rfl rfl (hH7.sub sR) <| AK 24 rfl rfl (bR (c := true) h10) (hH7.sub sR) <| AQ 25 rfl zh7 (run_pickT (bR (c := true) h10) (v := B true) rfl) <| AD <| CW.condT rfl <| SR <| va (v := B false) rfl <| RL.nil <| CW.ret <| outP1 Tryz.results28 (congrArg B ?_) hH7.below
   exact (ordered_no1 h0 ‹k < _› (nt ‹(!nameR _) = true›)).symm
  ·refine AG 8 rfl rfl (bR (c := false) h10) (hH7.sub sR) (fun w hS => run_move e3_1) <| AG 9 rfl rfl (bR (c := false) h10) (hH7.sub sR) (fun w hS => run_gtr rfl rfl) <| AG 10 rfl rfl (bR (c := false) h10) (hH7.sub sR) (fun w hS => mV (B _) rfl) <| AN.splitP (dj := 20) rfl (fun h12 => ?_) (fun h12 => ?_)
   ·refine AG 11 rfl rfl (bT h12) (hH7.sub sR) (fun w hS => run_move e0_1) <| AG 12 rfl rfl (bT h12) (hH7.sub sR) (fun w hS => run_move e3_1) <| AG 13 rfl rfl (bT h12) (hH7.sub sR) (fun w hS => run_sub rfl rfl (by omega)) <| AG 14 rfl rfl (bT h12) (hH7.sub sR) (fun w hS => run_indexAddrS (hs.hp hS) underlying48 sizeOf53 rfl rfl (by omega)) <| AG 15 rfl rfl (bT h12) (hH7.sub sR) (fun w hS => fA underlying53 0 rfl sizeOf9 rfl) <| AG 16 rfl rfl (bT h12) (hH7.sub sR) (fun w hS => run_ldE1 (dv := val0) (off := 0) valL_len (hs.hp hS) underlying9 rfl rfl (by omega) rfl) <| AG 17 rfl rfl (bT h12) (hH7.sub sR) (fun w hS => run_move e0_1) <| AG 18 rfl rfl (bT h12) (hH7.sub sR) (fun w hS => run_move e3_1) <| AG 19 rfl rfl (bT h12) (hH7.sub sR) (fun w hS => run_indexAddrS (hs.hp hS) underlying48 sizeOf53 rfl rfl (by omega)) <| AG 20 rfl rfl (bT h12) (hH7.sub sR) (fun w hS => fA underlying53 0 rfl sizeOf9 rfl) <| AG 21 rfl rfl (bT h12) (hH7.sub sR) (fun w hS => run_ldE1 (dv := val0) (off := 0) valL_len (hs.hp hS) underlying9 rfl rfl (by omega) rfl) <| A1 22 <| AO.callP rfl (gsome rfl (bT h12)) rfl hH7 sR (c_clearanceref02_Less _ _ (.inr (by have := name_sz (nf ‹(!nameR (l.getD k.toNat val0).name) = false›); omega)) _) (run_call2 call57 rfl rfl) <| fun w13 hH14 => AG 23 rfl rfl (bT h12) (hH14.sub sR) (fun w hS => run_not rfl) <| AG 24 rfl rfl (bR (c := false) h10) (hH14.sub sR) (fun w hS => run_pickT (bT h12) (v := B _) rfl) <| have zh14 := hH14.sub sR; AQ 25 rfl zh14 (run_pickF (bR (c := false) h10) (v := B _) rfl) <| AD <| CW.cond rfl (fun h17 => ?_) (fun h17 => ?_)
    ·refine SR <| va (v := B false) rfl <| RL.nil <| CW.ret <| outP1 Tryz.results28 (congrArg B ?_) hH14.below
     exact (ordered_no2 h0 ‹k < _› ‹0 < k› (nt ‹(!lessT _ _) = true›)).symm
    ·refine CW.skip <| CW.region <| vm e3_1 <| V (run_add rfl rfl (by omega)) <| aI rfl <| RL.nil <| ?_
     refine ⟨k + 1, ?_, fr1.u4.u4.u4.u4.u4.u4.u4.u4.u1, hH14, (congrArg I (by rfl)), ?_, ?_, ?_⟩
     ·((try dsimp only); omega)
     ·omega
     ·omega
     ·exact fun j a b => if e : j = k then e ▸ (by exact ord_y2 (nf ‹(!nameR _) = false›) (nf ‹(!lessT _ _) = false›)) else hg j a (by omega)
   ·refine AK 11 rfl rfl (bF h12) (hH7.sub sR) <| AK 12 rfl rfl (bF h12) (hH7.sub sR) <| AK 13 rfl rfl (bF h12) (hH7.sub sR) <| AK 14 rfl rfl (bF h12) (hH7.sub sR) <| AK 15 rfl rfl (bF h12) (hH7.sub sR) <| AK 16 rfl rfl (bF h12) (hH7.sub sR) <| AK 17 rfl rfl (bF h12) (hH7.sub sR) <| AK 18 rfl rfl (bF h12) (hH7.sub sR) <| AK 19 rfl rfl (bF h12) (hH7.sub sR) <| AK 20 rfl rfl (bF h12) (hH7.sub sR) <| AK 21 rfl rfl (bF h12) (hH7.sub sR) <| AK 22 rfl rfl (bF h12) (hH7.sub sR) <| AK 23 rfl rfl (bF h12) (hH7.sub sR) <| AG 24 rfl rfl (bR (c := false) h10) (hH7.sub sR) (fun w hS => run_pickF (bF h12) (v := B false) rfl) <| AQ 25 rfl zh7 (run_pickF (bR (c := false) h10) (v := B _) rfl) <| AD <| CW.condF rfl <| CW.skip <| CW.region <| vm e3_1 <| V (run_add rfl rfl (by omega)) <| aI rfl <| RL.nil <| ?_
    refine ⟨k + 1, ?_, fr1.u4.u4.u4.u4.u4.u4.u4.u4.u1, hH7, (congrArg I (by rfl)), ?_, ?_, ?_⟩
    ·((try dsimp only); omega)
    ·omega
    ·omega
    ·exact fun j a b => if e : j = k then e ▸ (by exact ord_y1 (nf ‹_›) ‹¬ 0 < k›) else hg j a (by omega)
 ·refine CW.exit (id := 0) rfl <| SR <| va (v := B true) rfl <| RL.nil <| CW.ret <| outP1 Tryz.results28 (congrArg B ?_) hH1.below
  exact (ordered_yes ‹¬ k < _› hg).symm
theorem c_assign_fits (s : Shp) (v : Value) (l : List ValR) (w : World) (hs : Sl w v 9 l.length (l.flatMap valL)) (hsh : ShpV (Kw w) s) (hT : Tab w) : Calls Tryz.prog 26 #[.agg (shpC s), v] w (Pure (B (fitsF s.sh l)) w) := by
 have hm := hs.small
 unfold maxLen at hm
 refine enter Tryz.func26 rfl Tryz.ntmps26 rfl <| have hH := Hp.start w; SR <| RL.new rfl hH (f := fun b => (.pointer (some ⟨b, 0, none⟩))) (run_box (v := .agg _) rfl) <| fun b3 w1 hH2 => va (v := B false) rfl <| RL.nil <| CW.seq <| SR <| ?_
 refine V (run_move (by conv => lhs; whnf)) ?_
 refine V (run_lenSl (hs.hp hH2) rfl underlying48 rfl) <| vm (v := I 0) rfl <| RL.nil <| CW.block <| CW.loop (G := Int) (fun k s' w' => (Fr (4 :: (6 :: (rg 9 10 []))) _ s') ∧ (Hp w w' _) ∧ (s' 9 = I k) ∧ (0 ≤ k) ∧ (k ≤ l.length) ∧ (∀ j : Int, 0 ≤ j → j < k → fitsS s.sh (l.getD j.toNat val0).el = true)) (fun k => (l.length - k).toNat) (0) ⟨Fr.refl _ _, hH2, rfl, (by omega), (by omega), fun j a b => absurd b (by omega)⟩ <| ?_
 rintro k sg4 w4 ⟨fr4, hH4, e9_4, h0, hk, hg⟩
 have e2_4 := fr4.pp 2 rfl rfl
 have e7_4 := (fr4 7 rfl).trans (by conv => lhs; whnf)
 have e8_4 := fr4.ii 8 rfl rfl
 refine SR <| V (run_lss e9_4 e8_4) <| RL.nil <| CW.seq <| CW.condP rfl (fun h6 => ?_) (fun h6 => ?_)
 ·refine CW.skip <| CW.seq <| CW.block <| SR <| V (run_indexAddrS (hs.hp hH4) underlying48 sizeOf53 e7_4 e9_4 (by omega)) <| V (run_ldE (dv := val0) valL_len (hs.hp hH4) underlying53 rfl rfl rfl (by omega)) <| RL.new rfl hH4 (f := fun b => (.pointer (some ⟨b, 0, none⟩))) (run_alloc zero_val) <| fun b9 w7 hH8 => RL.set hH8 (i := 0) rfl (run_stW (c' := (valL _).toArray) rfl rfl rfl (valL_one _) (hH8.blk (i := 0) rfl) rfl) <| fun w10 hH11 => ?_
  simp only [z2] at hH11
  refine RL.nil <| SR <| V (run_ldA (cs := [B _, _]) underlying42 rfl rfl e2_4 (rangeAt_cells (hH11.blk (i := 1) rfl))) <| V (fA underlying53 1 rfl sizeOf51 rfl) <| V (run_ldVB underlying51 rfl rfl rfl (hH11.blk (i := 0) rfl)) <| RL.callP rfl hH11 (c_shape_Fits _ _  _ (hsh.mono hH11.kw) (hT.hp hH11)) (run_call2 call24 rfl rfl) <| fun w12 hH13 => V (run_not rfl) <| RL.nil <| CW.cond rfl (fun h16 => ?_) (fun h16 => ?_)
  ·refine SR <| va (v := B false) rfl <| RL.nil <| CW.ret <| outP1 Tryz.results26 (congrArg B ?_) hH13.below
   exact (fits_no h0 ‹k < _› (nt ‹_›)).symm
  ·refine CW.skip <| CW.region <| V (run_add e9_4 rfl (by omega)) <| mI rfl <| RL.nil <| ?_
   refine ⟨k + 1, ?_, fr4.u4.u4.u1.u1.u1, (hH13.sub (sQ sR)), (congrArg I (by rfl)), ?_, ?_, ?_⟩
   ·((try dsimp only); omega)
   ·omega
   ·omega
   ·exact fun j a b => if e : j = k then e ▸ nf ‹_› else hg j a (by omega)
 ·refine CW.exit (id := 0) rfl <| SR <| va (v := B true) rfl <| RL.nil <| CW.ret <| outP1 Tryz.results26 (congrArg B ?_) hH4.below
  exact (fits_all ‹¬ k < _› hg).symm
theorem c_assign_at_api_Elem (v : Value) (l : List El) (i : Int) (h0 : 0 ≤ i) (w : World) (hs : Sl w v 8 l.length (l.flatMap elL)) : Calls Tryz.prog 38 #[v, I i] w (Pure (.agg (elC (l.getD i.toNat el0))) w) := by
 have hm := hs.small
 unfold maxLen at hm
 refine enter Tryz.func38 rfl Tryz.ntmps38 rfl <| have hH := Hp.start w; SR <| RL.new rfl hH (f := fun b => (.pointer (some ⟨b, 0, none⟩))) (run_alloc zero_el) <| fun b3 w1 hH2 => RL.nil <| SR <| RL.new rfl hH2 (f := fun b => (.pointer (some ⟨b, 0, none⟩))) (run_alloc zero_el) <| fun b6 w4 hH5 => RL.nil <| CW.seq <| SR <| mI rfl <| V (run_lss rfl rfl) <| mB rfl <| RL.splitP (dj := 8) rfl (fun h8 => ?_) (fun h8 => ?_)
 ·refine gF rfl (bT h8) <| gF rfl (bT h8) <| gF rfl (bT h8) <| gF rfl (bT h8) <| V (run_pickT (bT h8) (v := B true) rfl) <| RL.nil <| CW.condT rfl <| SR <| V (run_ldEl underlying51 rfl rfl rfl (hH5.blk (i := 0) rfl)) <| RL.set hH5 (i := 1) rfl (run_stEl rfl rfl rfl (hH5.blk (i := 1) rfl)) <| fun w9 hH10 => ?_
  simp only [z2] at hH10
  refine RL.nil <| CW.ret <| outCg Tryz.results38 rfl hH10 (i := 1) rfl underlying51 rfl (by rw [elC_size]; rfl) ⟨?_, hH10.below⟩
  (rw [getD_out (by omega)]; done)
 ·refine gT rfl (bF h8) <| mI rfl <| gT rfl (bF h8) <| ?_
  refine V (run_move (by conv => lhs; whnf)) ?_
  refine gT rfl (bF h8) <| V (run_lenSl (hs.hp hH5) rfl underlying26 rfl) <| gT rfl (bF h8) <| V (run_geq rfl rfl) <| V (run_pickF (bF h8) (v := B _) rfl) <| RL.nil <| CW.condP rfl (fun h12 => ?_) (fun h12 => ?_)
  ·refine SR <| V (run_ldEl underlying51 rfl rfl rfl (hH5.blk (i := 0) rfl)) <| RL.set hH5 (i := 1) rfl (run_stEl rfl rfl rfl (hH5.blk (i := 1) rfl)) <| fun w13 hH14 => ?_
   simp only [z2] at hH14
   refine RL.nil <| CW.ret <| outCg Tryz.results38 rfl hH14 (i := 1) rfl underlying51 rfl (by rw [elC_size]; rfl) ⟨?_, hH14.below⟩
   (rw [getD_out (by omega)]; done)
  ·refine CW.skip <| SR <| ?_
   refine V (run_move (by conv => lhs; whnf)) ?_
   refine mI rfl <| V (run_indexAddrS (hs.hp hH5) underlying26 sizeOf51 rfl rfl (by omega)) <| V (run_ldElS (hs.hp hH5) underlying51 rfl rfl rfl (by omega)) <| RL.set hH5 (i := 1) rfl (run_stEl rfl rfl rfl (hH5.blk (i := 1) rfl)) <| fun w15 hH16 => ?_
   simp only [z2] at hH16
   refine RL.nil <| CW.ret <| outCg Tryz.results38 rfl hH16 (i := 1) rfl underlying51 rfl (by rw [elC_size]; rfl) ⟨?_, hH16.below⟩
   rfl
theorem c_assign_at_api_Value (v : Value) (l : List VrR) (i : Int) (h0 : 0 ≤ i) (w : World) (hs : Sl w v 1 l.length (rowsC l)) : Calls Tryz.prog 40 #[v, I i] w (Pure ((l.getD i.toNat vr0).v) w) := by
 have hm := hs.small
 unfold maxLen at hm
 refine enter Tryz.func40 rfl Tryz.ntmps40 rfl <| have hH := Hp.start w; SR <| va (v := .slice none 0 0) rfl <| RL.nil <| SR <| va (v := .slice none 0 0) rfl <| RL.nil <| CW.seq <| SR <| mI rfl <| V (run_lss rfl rfl) <| mB rfl <| RL.splitP (dj := 8) rfl (fun h2 => ?_) (fun h2 => ?_)
 ·refine gF rfl (bT h2) <| gF rfl (bT h2) <| gF rfl (bT h2) <| gF rfl (bT h2) <| V (run_pickT (bT h2) (v := B true) rfl) <| RL.nil <| CW.condT rfl <| SR <| ?_
  refine V (run_move (by conv => lhs; whnf)) ?_
  refine V (run_assign (by conv => lhs; whnf)) ?_
  refine RL.nil <| CW.ret <| outP1 Tryz.results40 ?_ hH.below
  (rw [getD_out (by omega)]; rfl)
 ·refine gT rfl (bF h2) <| mI rfl <| gT rfl (bF h2) <| ?_
  refine V (run_move (by conv => lhs; whnf)) ?_
  refine gT rfl (bF h2) <| V (run_lenSl (hs.hp hH) rfl underlying27 rfl) <| gT rfl (bF h2) <| V (run_geq rfl rfl) <| V (run_pickF (bF h2) (v := B _) rfl) <| RL.nil <| CW.condP rfl (fun h4 => ?_) (fun h4 => ?_)
  ·refine SR ?_
   refine V (run_move (by conv => lhs; whnf)) ?_
   refine V (run_assign (by conv => lhs; whnf)) ?_
   refine RL.nil <| CW.ret <| outP1 Tryz.results40 ?_ hH.below
   (rw [getD_out (by omega)]; rfl)
  ·refine CW.skip <| SR <| ?_
   refine V (run_move (by conv => lhs; whnf)) ?_
   refine mI rfl <| V (run_indexAddrS (hs.hp hH) underlying27 sizeOf48 rfl rfl (by omega)) <| V (run_ld underlying48 rfl rfl ((hs.hp hH).cell _ _ (rowsC_at (by omega)))) <| ?_
   refine V (run_assign (by conv => lhs; whnf)) ?_
   refine RL.nil <| CW.ret <| outP1 Tryz.results40 ?_ hH.below
   rfl
theorem c_assign_at_api_Lat (s : Scp) (i : Int) (w : World) (hs : ScpV (Kw w) s) : Calls Tryz.prog 31 #[s.lv, I i] w (Pure (.agg (latL (latAt s.lats i)).toArray) w) := by
 have hm1 := hs.lats.sl.small
 have hm2 := hs.vars.sl.small
 unfold maxLen at hm1 hm2
 refine enter Tryz.func31 rfl Tryz.ntmps31 rfl <| have hH := Hp.start w; SR <| RL.new rfl hH (f := fun b => (.pointer (some ⟨b, 0, none⟩))) (run_alloc zero_lat) <| fun b3 w1 hH2 => RL.nil <| SR <| RL.new rfl hH2 (f := fun b => (.pointer (some ⟨b, 0, none⟩))) (run_alloc zero_lat) <| fun b6 w4 hH5 => RL.nil <| CW.seq <| SR <| mI rfl <| V (run_lss rfl rfl) <| mB rfl <| RL.splitP (dj := 8) rfl (fun h8 => ?_) (fun h8 => ?_)
 ·refine gF rfl (bT h8) <| gF rfl (bT h8) <| gF rfl (bT h8) <| gF rfl (bT h8) <| V (run_pickT (bT h8) (v := B true) rfl) <| RL.nil <| CW.condT rfl <| SR <| V (run_ldA (cs := latL _) underlying44 rfl rfl rfl (rangeAt_cells (hH5.blk (i := 0) rfl))) <| RL.set hH5 (i := 1) rfl (run_stW (c' := (latL _).toArray) rfl rfl rfl (latL_one (lat0_v (Kw w))) (hH5.blk (i := 1) rfl) rfl) <| fun w9 hH10 => ?_
  simp only [z2] at hH10
  refine RL.nil <| CW.ret <| outCg Tryz.results31 rfl hH10 (i := 1) rfl underlying44 rfl rfl ⟨?_, hH10.below⟩
  (unfold latAt; rw [if_neg (by omega)])
 ·refine gT rfl (bF h8) <| mI rfl <| gT rfl (bF h8) <| ?_
  refine V (run_move (by conv => lhs; whnf)) ?_
  refine gT rfl (bF h8) <| V (run_lenSl (hs.lats.sl.hp hH5) rfl underlying22 rfl) <| gT rfl (bF h8) <| V (run_geq rfl rfl) <| V (run_pickF (bF h8) (v := B _) rfl) <| RL.nil <| CW.condP rfl (fun h12 => ?_) (fun h12 => ?_)
  ·refine SR <| V (run_ldA (cs := latL _) underlying44 rfl rfl rfl (rangeAt_cells (hH5.blk (i := 0) rfl))) <| RL.set hH5 (i := 1) rfl (run_stW (c' := (latL _).toArray) rfl rfl rfl (latL_one (lat0_v (Kw w))) (hH5.blk (i := 1) rfl) rfl) <| fun w13 hH14 => ?_
   simp only [z2] at hH14
   refine RL.nil <| CW.ret <| outCg Tryz.results31 rfl hH14 (i := 1) rfl underlying44 rfl rfl ⟨?_, hH14.below⟩
   (unfold latAt; rw [if_neg (by omega)])
  ·refine CW.skip <| SR <| ?_
   refine V (run_move (by conv => lhs; whnf)) ?_
   refine mI rfl <| V (run_indexAddrS (hs.lats.sl.hp hH5) underlying22 sizeOf44 rfl rfl (by omega)) <| V (run_ldE (dv := lat0) latL_len (hs.lats.sl.hp hH5) underlying44 rfl rfl rfl (by omega)) <| RL.set hH5 (i := 1) rfl (run_stW (c' := (latL _).toArray) rfl rfl rfl (latL_one (hs.at (by omega) (by omega))) (hH5.blk (i := 1) rfl) rfl) <| fun w15 hH16 => ?_
   simp only [z2] at hH16
   refine RL.nil <| CW.ret <| outCg Tryz.results31 rfl hH16 (i := 1) rfl underlying44 rfl rfl ⟨?_, hH16.below⟩
   (unfold latAt; rw [if_pos (by omega)])
theorem c_assign_below (v u : Value) (l m : List ValR) (w : World) (hs : Sl w v 9 l.length (l.flatMap valL)) (ht : Sl w u 9 m.length (m.flatMap valL)) : Calls Tryz.prog 39 #[v, u] w (Pure (B (belowL l m)) w) := by
 have hm := hs.small
 unfold maxLen at hm
 have hm2 := ht.small
 unfold maxLen at hm2
 refine enter Tryz.func39 rfl Tryz.ntmps39 rfl <| have hH := Hp.start w; SR <| va (v := B false) rfl <| RL.nil <| CW.seq <| SR <| ?_
 refine V (run_move (by conv => lhs; whnf)) ?_
 refine V (run_lenSl (hs.hp hH) rfl underlying48 rfl) <| vm (v := I 0) rfl <| RL.nil <| CW.block <| CW.loop (G := Int) (fun k s' w' => (Fr (4 :: (rg 6 3 (rg 11 21 []))) _ s') ∧ (Hp w w' _) ∧ (s' 11 = I k) ∧ (0 ≤ k) ∧ (k ≤ l.length) ∧ (∀ j : Int, 0 ≤ j → j < k → ((getF m (l.getD j.toNat val0).name).2 && leqE (l.getD j.toNat val0).el (getF m (l.getD j.toNat val0).name).1) = true)) (fun k => (l.length - k).toNat) (0) ⟨Fr.refl _ _, hH, rfl, (by omega), (by omega), fun j a b => absurd b (by omega)⟩ <| ?_
 rintro k sg1 w1 ⟨fr1, hH1, e11_1, h0, hk, hg⟩
 have e1_1 := (fr1 1 rfl).trans (by conv => lhs; whnf)
 have e9_1 := (fr1 9 rfl).trans (by conv => lhs; whnf)
 have e10_1 := fr1.ii 10 rfl rfl
 refine SR <| V (run_lss e11_1 e10_1) <| RL.nil <| CW.seq <| CW.condP rfl (fun h3 => ?_) (fun h3 => ?_)
 ·refine CW.skip <| CW.seq <| CW.block <| SR <| V (run_indexAddrS (hs.hp hH1) underlying48 sizeOf53 e9_1 e11_1 (by omega)) <| V (run_ldE (dv := val0) valL_len (hs.hp hH1) underlying53 rfl rfl rfl (by omega)) <| RL.new rfl hH1 (f := fun b => (.pointer (some ⟨b, 0, none⟩))) (run_alloc zero_val) <| fun b6 w4 hH5 => RL.set hH5 (i := 0) rfl (run_stW (c' := (valL _).toArray) rfl rfl rfl (valL_one _) (hH5.blk (i := 0) rfl) rfl) <| fun w7 hH8 => ?_
  simp only [z2] at hH8
  refine RL.nil <| SR <| vm e1_1 <| V (fA underlying53 0 rfl sizeOf9 rfl) <| V (run_ld underlying9 rfl rfl (hH8.cell (i := 0) rfl (v := .string _) rfl)) <| RL.callP rfl hH8 (c_assign_Get _ _ _  _ (ht.hp hH8)) (run_call2 call69 rfl rfl) <| fun w9 hH10 => ?_
  refine V (run_move (by conv => lhs; whnf)) ?_
  refine V (run_extract rfl (v := .agg _) rfl) <| V (run_extract rfl (v := B _) rfl) <| RL.new rfl hH10 (f := fun b => (.pointer (some ⟨b, 0, none⟩))) (run_alloc zero_el) <| fun b14 w12 hH13 => RL.set hH13 (i := 0) rfl (run_stEl rfl rfl rfl (hH13.blk (i := 0) rfl)) <| fun w15 hH16 => ?_
  simp only [z2] at hH16
  refine aB rfl <| RL.nil <| SR <| mB rfl <| V (run_not rfl) <| mB rfl <| RL.split (dj := 24) rfl (fun h18 => ?_) (fun h18 => ?_)
  ·refine gF rfl (bR (c := true) h18) <| gF rfl (bR (c := true) h18) <| gF rfl (bR (c := true) h18) <| gF rfl (bR (c := true) h18) <| gF rfl (bR (c := true) h18) <| V (run_pickT (bR (c := true) h18) (v := B true) rfl) <| RL.nil <| CW.condT rfl <| SR <| va (v := B false) rfl <| RL.nil <| CW.ret <| outP1 Tryz.results39 (congrArg B ?_) hH16.below
   exact (below_no1 h0 ‹k < _› (nt ‹(!(getF _ _).2) = true›)).symm
  ·refine gT rfl (bR (c := false) h18) <| V (fA underlying53 1 rfl sizeOf51 rfl) <| gT rfl (bR (c := false) h18) <| V (run_ldVB underlying51 rfl rfl rfl (hH16.blk (i := 1) rfl)) <| gT rfl (bR (c := false) h18) <| V (run_ldEl underlying51 rfl rfl rfl (hH16.blk (i := 0) rfl)) <| gT rfl (bR (c := false) h18) <| RL.callP rfl hH16 (c_shape_Leq _ _  _) (run_call2 call37 rfl rfl) <| fun w19 hH20 => gT rfl (bR (c := false) h18) <| V (run_not rfl) <| V (run_pickF (bR (c := false) h18) (v := B _) rfl) <| RL.nil <| CW.cond rfl (fun h23 => ?_) (fun h23 => ?_)
   ·refine SR <| va (v := B false) rfl <| RL.nil <| CW.ret <| outP1 Tryz.results39 (congrArg B ?_) hH20.below
    exact (below_no2 h0 ‹k < _› (nt ‹(!leqE _ _) = true›)).symm
   ·refine CW.skip <| CW.region <| V (run_add e11_1 rfl (by omega)) <| mI rfl <| RL.nil <| ?_
    refine ⟨k + 1, ?_, fr1.u4.u4.u4.u4.u4.u4, (hH20.sub (sQ (sQ sR))), (congrArg I (by rfl)), ?_, ?_, ?_⟩
    ·((try dsimp only); omega)
    ·omega
    ·omega
    ·exact fun j a b => if e : j = k then e ▸ (by rw [nf ‹(!(getF _ _).2) = false›, nf ‹(!leqE _ _) = false›]; rfl) else hg j a (by omega)
 ·refine CW.exit (id := 0) rfl <| SR <| va (v := B true) rfl <| RL.nil <| CW.ret <| outP1 Tryz.results39 (congrArg B ?_) hH1.below
  exact (below_yes ‹¬ k < _› hg).symm
theorem c_clearanceref18_Fields (v u : Value) (l m : List ValR) (w : World) (hs : Sl w v 9 l.length (l.flatMap valL)) (ht : Sl w u 9 m.length (m.flatMap valL)) : Calls Tryz.prog 29 #[v, u] w (Pure (B (sameL l m)) w) := by
 have hm := hs.small
 unfold maxLen at hm
 have hm2 := ht.small
 unfold maxLen at hm2
 refine enter Tryz.func29 rfl Tryz.ntmps29 rfl <| have hH := Hp.start w; SR <| va (v := B false) rfl <| RL.nil <| CW.seq <| SR <| ?_
 refine V (run_move (by conv => lhs; whnf)) ?_
 refine V (run_lenSl (hs.hp hH) rfl underlying48 rfl) ?_
 refine V (run_move (by conv => lhs; whnf)) ?_
 refine V (run_lenSl (ht.hp hH) rfl underlying48 rfl) <| V (run_neq rfl rfl) <| RL.nil <| CW.condP rfl (fun h2 => ?_) (fun h2 => ?_)
 ·refine SR <| va (v := B false) rfl <| RL.nil <| CW.ret <| outP1 Tryz.results29 (congrArg B ?_) hH.below
  exact (sameL_no1 ‹_›).symm
 ·refine CW.skip <| CW.seq <| SR <| va (v := I 0) rfl <| RL.nil <| CW.block <| have hlm : (l.length : Int) = m.length := (by omega); CW.loop (G := Int) (fun k s' w' => (Fr (4 :: 5 :: (rg 11 15 [])) _ s') ∧ (Hp w w' _) ∧ (s' 5 = I k) ∧ (0 ≤ k) ∧ (k ≤ l.length) ∧ (∀ j : Int, 0 ≤ j → j < k → sameV (l.getD j.toNat val0) (m.getD j.toNat val0) = true)) (fun k => (l.length - k).toNat) (0) ⟨Fr.refl _ _, hH, rfl, (by omega), (by omega), fun j a b => absurd b (by omega)⟩ <| ?_
  rintro k sg3 w3 ⟨fr3, hH3, e5_3, h0, hk, hg⟩
  have e0_3 := (fr3 0 rfl).trans (by conv => lhs; whnf)
  have e1_3 := (fr3 1 rfl).trans (by conv => lhs; whnf)
  refine CW.seq <| SR <| vm e5_3 <| vm e0_3 <| V (run_lenSl (hs.hp hH3) rfl underlying48 rfl) <| V (run_lss rfl rfl) <| RL.nil <| CW.condP rfl (fun h5 => ?_) (fun h5 => ?_)
  ·refine CW.skip <| CW.seq <| CW.block <| CW.seq <| CW.regionD (by kernel_rfl) hH3 <| fun w6 hH7 => have zh7 := hH7.sub sR; AQ 0 rfl zh7 (run_move e0_3) <| AQ 1 rfl zh7 (run_move e5_3) <| AT 2 rfl zh7 (fun w hS => run_indexAddrS (hs.hp hS) underlying48 sizeOf53 rfl rfl (by omega)) <| AT 3 rfl zh7 (fun w hS => run_ldE (dv := val0) valL_len (hs.hp hS) underlying53 rfl rfl rfl (by omega)) <| AQ 4 rfl zh7 (run_move e1_3) <| AQ 5 rfl zh7 (run_move e5_3) <| AT 6 rfl zh7 (fun w hS => run_indexAddrS (ht.hp hS) underlying48 sizeOf53 rfl rfl (by omega)) <| AT 7 rfl zh7 (fun w hS => run_ldE (dv := val0) valL_len (ht.hp hS) underlying53 rfl rfl rfl (by omega)) <| AQ 8 rfl zh7 (run_neqT (eq_val _ _) rfl rfl) <| AD <| CW.cond rfl (fun h9 => ?_) (fun h9 => ?_)
   ·refine SR <| va (v := B false) rfl <| RL.nil <| CW.ret <| outP1 Tryz.results29 (congrArg B ?_) hH7.below
    exact (sameL_no2 h0 ‹k < _› (nt ‹(!sameV _ _) = true›)).symm
   ·refine CW.skip <| CW.region <| vm e5_3 <| V (run_add rfl rfl (by omega)) <| aI rfl <| RL.nil <| ?_
    refine ⟨k + 1, ?_, fr3.u4.u4.u4.u4, hH7, (congrArg I (by rfl)), ?_, ?_, ?_⟩
    ·((try dsimp only); omega)
    ·omega
    ·omega
    ·exact fun j a b => if e : j = k then e ▸ nf ‹(!sameV _ _) = false› else hg j a (by omega)
  ·refine CW.exit (id := 0) rfl <| SR <| va (v := B true) rfl <| RL.nil <| CW.ret <| outP1 Tryz.results29 (congrArg B ?_) hH3.below
   exact (sameL_yes hlm ‹¬ k < _› hg).symm
theorem c_clearanceref18_Same (a b : Asg) (w : World) (ha : AsgV (Kw w) a) (hb : AsgV (Kw w) b) : Calls Tryz.prog 11 #[.agg (asgL a).toArray, .agg (asgL b).toArray] w (Pure (B (sameA a.as b.as)) w) := by
 have hm1 := ha.labels.small
 have hm2 := ha.rows.small
 have hm3 := hb.labels.small
 have hm4 := hb.rows.small
 unfold maxLen at hm1 hm2 hm3 hm4
 refine enter Tryz.func11 rfl Tryz.ntmps11 rfl <| have hH := Hp.start w; SR <| RL.new rfl hH (f := fun b => (.pointer (some ⟨b, 0, none⟩))) (run_box (v := .agg _) rfl) <| fun b3 w1 hH2 => RL.new rfl hH2 (f := fun b => (.pointer (some ⟨b, 0, none⟩))) (run_box (v := .agg _) rfl) <| fun b6 w4 hH5 => va (v := B false) rfl <| RL.nil <| CW.seq <| SR <| V (fA underlying29 0 rfl sizeOf26 rfl) <| V (run_ldV (ha.labels.sl.hp hH5) underlying26 rfl rfl (hH5.cell (i := 1) rfl rfl)) <| V (run_lenSl (ha.labels.sl.hp hH5) rfl underlying26 rfl) <| V (fA underlying29 0 rfl sizeOf26 rfl) <| V (run_ldV (hb.labels.sl.hp hH5) underlying26 rfl rfl (hH5.cell (i := 0) rfl rfl)) <| V (run_lenSl (hb.labels.sl.hp hH5) rfl underlying26 rfl) <| V (run_neq rfl rfl) <| mB rfl <| RL.splitP (dj := 14) rfl (fun h8 => ?_) (fun h8 => ?_)
 ·refine gF rfl (bT h8) <| gF rfl (bT h8) <| gF rfl (bT h8) <| gF rfl (bT h8) <| gF rfl (bT h8) <| gF rfl (bT h8) <| gF rfl (bT h8) <| V (run_pickT (bT h8) (v := B true) rfl) <| RL.nil <| CW.condT rfl <| SR <| va (v := B false) rfl <| RL.nil <| CW.ret <| outP1 Tryz.results11 (congrArg B ?_) hH5.below
  exact (same_1 ‹_›).symm
 ·refine gT rfl (bF h8) <| V (fA underlying29 1 rfl sizeOf27 rfl) <| gT rfl (bF h8) <| V (run_ldV (ha.rows.sl.hp hH5) underlying27 rfl rfl (hH5.cell (i := 1) rfl rfl)) <| gT rfl (bF h8) <| V (run_lenSl (ha.rows.sl.hp hH5) rfl underlying27 rfl) <| gT rfl (bF h8) <| V (fA underlying29 1 rfl sizeOf27 rfl) <| gT rfl (bF h8) <| V (run_ldV (hb.rows.sl.hp hH5) underlying27 rfl rfl (hH5.cell (i := 0) rfl rfl)) <| gT rfl (bF h8) <| V (run_lenSl (hb.rows.sl.hp hH5) rfl underlying27 rfl) <| gT rfl (bF h8) <| V (run_neq rfl rfl) <| V (run_pickF (bF h8) (v := B _) rfl) <| RL.nil <| CW.condP rfl (fun h10 => ?_) (fun h10 => ?_)
  ·refine SR <| va (v := B false) rfl <| RL.nil <| CW.ret <| outP1 Tryz.results11 (congrArg B ?_) hH5.below
   exact (same_2 ‹_›).symm
  ·refine CW.skip <| CW.seq <| SR <| va (v := I 0) rfl <| RL.nil <| CW.block <| have e1 : (a.labels.length : Int) = b.labels.length := (by omega); have e2 : (a.rows.length : Int) = b.rows.length := (by omega); CW.loop (G := Int) (fun k s' w' => (Fr (4 :: 5 :: (rg 23 18 [])) _ s') ∧ (Hp w w' _) ∧ (s' 5 = I k) ∧ (0 ≤ k) ∧ (k ≤ a.labels.length) ∧ (∀ i : Int, 0 ≤ i → i < k → decide (eqE (a.labels.getD i.toNat el0) (b.labels.getD i.toNat el0)) = true)) (fun k => (a.labels.length - k).toNat) (0) ⟨Fr.refl _ _, hH5, rfl, (by omega), (by omega), fun j a b => absurd b (by omega)⟩ <| ?_
   rintro k sg11 w11 ⟨fr11, hH11, e5_11, h0, hk, hg⟩
   have e2_11 := fr11.pp 2 rfl rfl
   have e3_11 := fr11.pp 3 rfl rfl
   refine CW.seq <| SR <| vm e5_11 <| V (fA underlying29 0 rfl sizeOf26 e2_11) <| V (run_ldV (ha.labels.sl.hp hH11) underlying26 rfl rfl (hH11.cell (i := 1) rfl rfl)) <| V (run_lenSl (ha.labels.sl.hp hH11) rfl underlying26 rfl) <| V (run_lss rfl rfl) <| RL.nil <| CW.condP rfl (fun h13 => ?_) (fun h13 => ?_)
   ·refine CW.skip <| CW.seq <| CW.block <| CW.seq <| CW.regionD (by kernel_rfl) hH11 <| fun w14 hH15 => have zh15 := hH15.sub sR; AQ 0 rfl zh15 (fA underlying29 0 rfl sizeOf26 e2_11) <| AT 1 rfl zh15 (fun w hS => run_ldV (ha.labels.sl.hp hS) underlying26 rfl rfl (hS.cell (i := 1) rfl rfl)) <| AQ 2 rfl zh15 (run_move e5_11) <| AT 3 rfl zh15 (fun w hS => run_indexAddrS (ha.labels.sl.hp hS) underlying26 sizeOf51 rfl rfl (by omega)) <| AT 4 rfl zh15 (fun w hS => run_ldElS (ha.labels.sl.hp hS) underlying51 rfl rfl rfl (by omega)) <| AQ 5 rfl zh15 (fA underlying29 0 rfl sizeOf26 e3_11) <| AT 6 rfl zh15 (fun w hS => run_ldV (hb.labels.sl.hp hS) underlying26 rfl rfl (hS.cell (i := 0) rfl rfl)) <| AQ 7 rfl zh15 (run_move e5_11) <| AT 8 rfl zh15 (fun w hS => run_indexAddrS (hb.labels.sl.hp hS) underlying26 sizeOf51 rfl rfl (by omega)) <| AT 9 rfl zh15 (fun w hS => run_ldElS (hb.labels.sl.hp hS) underlying51 rfl rfl rfl (by omega)) <| AQ 10 rfl zh15 (run_neqEl elT_fact rfl rfl) <| AD <| CW.cond rfl (fun h17 => ?_) (fun h17 => ?_)
    ·refine SR <| va (v := B false) rfl <| RL.nil <| CW.ret <| outP1 Tryz.results11 (congrArg B ?_) hH15.below
     exact (same_3 h0 ‹k < _› (nt ‹(!decide (eqE _ _)) = true›)).symm
    ·refine CW.skip <| CW.region <| vm e5_11 <| V (run_add rfl rfl (by omega)) <| aI rfl <| RL.nil <| ?_
     refine ⟨k + 1, ?_, fr11.u4.u4.u4.u4.u1.u1.u1, hH15, (congrArg I (by rfl)), ?_, ?_, ?_⟩
     ·((try dsimp only); omega)
     ·omega
     ·omega
     ·exact fun i u v => if e : i = k then e ▸ (nf ‹(!decide (eqE _ _)) = false›) else hg i u (by omega)
   ·refine CW.exit (id := 0) rfl <| CW.seq <| SR <| va (v := I 0) rfl <| RL.nil <| CW.block <| CW.loop (G := Int) (fun j s' w' => (Fr (4 :: (6 :: (rg 41 19 []))) _ s') ∧ (Hp w w' _) ∧ (s' 6 = I j) ∧ (0 ≤ j) ∧ (j ≤ a.rows.length) ∧ (∀ i : Int, 0 ≤ i → i < j → sameL (a.rows.getD i.toNat vr0).l (b.rows.getD i.toNat vr0).l = true)) (fun j => (a.rows.length - j).toNat) (0) ⟨Fr.refl _ _, hH11, rfl, (by omega), (by omega), fun j a b => absurd b (by omega)⟩ <| ?_
    rintro j sg18 w18 ⟨fr18, hH18, e6_18, j0, jk, hr⟩
    have e2_18 := (fr18 2 rfl).trans e2_11
    have e3_18 := (fr18 3 rfl).trans e3_11
    refine CW.seq <| SR <| vm e6_18 <| V (fA underlying29 1 rfl sizeOf27 e2_18) <| V (run_ldV (ha.rows.sl.hp hH18) underlying27 rfl rfl (hH18.cell (i := 1) rfl rfl)) <| V (run_lenSl (ha.rows.sl.hp hH18) rfl underlying27 rfl) <| V (run_lss rfl rfl) <| RL.nil <| CW.condP rfl (fun h20 => ?_) (fun h20 => ?_)
    ·refine CW.skip <| CW.seq <| CW.block <| CW.seq <| CW.regionD (by kernel_rfl) hH18 <| fun w21 hH22 => have zh22 := hH22.sub sR; AQ 0 rfl zh22 (fA underlying29 1 rfl sizeOf27 e2_18) <| AT 1 rfl zh22 (fun w hS => run_ldV (ha.rows.sl.hp hS) underlying27 rfl rfl (hS.cell (i := 1) rfl rfl)) <| AQ 2 rfl zh22 (run_move e6_18) <| AT 3 rfl zh22 (fun w hS => run_indexAddrS (ha.rows.sl.hp hS) underlying27 sizeOf48 rfl rfl (by omega)) <| AT 4 rfl zh22 (fun w hS => run_ld underlying48 rfl rfl ((ha.rows.sl.hp hS).cell _ _ (rowsC_at (by omega)))) <| AQ 5 rfl zh22 (fA underlying29 1 rfl sizeOf27 e3_18) <| AT 6 rfl zh22 (fun w hS => run_ldV (hb.rows.sl.hp hS) underlying27 rfl rfl (hS.cell (i := 0) rfl rfl)) <| AQ 7 rfl zh22 (run_move e6_18) <| AT 8 rfl zh22 (fun w hS => run_indexAddrS (hb.rows.sl.hp hS) underlying27 sizeOf48 rfl rfl (by omega)) <| AT 9 rfl zh22 (fun w hS => run_ld underlying48 rfl rfl ((hb.rows.sl.hp hS).cell _ _ (rowsC_at (by omega)))) <| A1 10 <| AO.callP rfl gnone rfl hH22 sR (c_clearanceref18_Fields _ _ _ _  _ ((ha.at (by omega) (by omega)).sl.hp hH22) ((hb.at (by omega) (by omega)).sl.hp hH22)) (run_call2 call29 rfl rfl) <| fun w23 hH24 => AQ 11 rfl (hH24.sub sR) (run_not rfl) <| AD <| CW.cond rfl (fun h27 => ?_) (fun h27 => ?_)
     ·refine SR <| va (v := B false) rfl <| RL.nil <| CW.ret <| outP1 Tryz.results11 (congrArg B ?_) hH24.below
      exact (same_4 j0 ‹j < _› (nt ‹(!sameL _ _) = true›)).symm
     ·refine CW.skip <| CW.region <| vm e6_18 <| V (run_add rfl rfl (by omega)) <| aI rfl <| RL.nil <| ?_
      refine ⟨j + 1, ?_, fr18.u4.u4.u4.u4.u4, hH24, (congrArg I (by rfl)), ?_, ?_, ?_⟩
      ·((try dsimp only); omega)
      ·omega
      ·omega
      ·exact fun i u v => if e : i = j then e ▸ (nf ‹(!sameL _ _) = false›) else hr i u (by omega)
    ·refine CW.exit (id := 2) rfl <| SR <| va (v := B true) rfl <| RL.nil <| CW.ret <| outP1 Tryz.results11 (congrArg B ?_) hH18.below
     exact (same_y e1 e2 ‹¬ k < _› hg ‹¬ j < _› hr).symm
theorem c_assign_Leq (a b : Asg) (w : World) (ha : AsgV (Kw w) a) (hb : AsgV (Kw w) b) : Calls Tryz.prog 17 #[.agg (asgL a).toArray, .agg (asgL b).toArray] w (Pure (B (leqA a.as b.as)) w) := by
 have hm1 := ha.labels.small
 have hm2 := ha.rows.small
 have hm3 := hb.labels.small
 have hm4 := hb.rows.small
 unfold maxLen at hm1 hm2 hm3 hm4
 refine enter Tryz.func17 rfl Tryz.ntmps17 rfl <| have hH := Hp.start w; SR <| RL.new rfl hH (f := fun b => (.pointer (some ⟨b, 0, none⟩))) (run_box (v := .agg _) rfl) <| fun b3 w1 hH2 => RL.new rfl hH2 (f := fun b => (.pointer (some ⟨b, 0, none⟩))) (run_box (v := .agg _) rfl) <| fun b6 w4 hH5 => va (v := B false) rfl <| RL.nil <| CW.seq <| SR <| V (fA underlying29 0 rfl sizeOf26 rfl) <| V (run_ldV (ha.labels.sl.hp hH5) underlying26 rfl rfl (hH5.cell (i := 1) rfl rfl)) <| V (run_lenSl (ha.labels.sl.hp hH5) rfl underlying26 rfl) <| vm (v := I 0) rfl <| RL.nil <| CW.block <| CW.loop (G := Int) (fun k s' w' => (Fr (4 :: 5 :: (rg 10 15 [])) _ s') ∧ (Hp w w' _) ∧ (s' 10 = I k) ∧ (0 ≤ k) ∧ (k ≤ a.labels.length) ∧ (∀ i : Int, 0 ≤ i → i < k → leqE (a.labels.getD i.toNat el0) (b.labels.getD i.toNat el0) = true)) (fun k => (a.labels.length - k).toNat) (0) ⟨Fr.refl _ _, hH5, rfl, (by omega), (by omega), fun j a b => absurd b (by omega)⟩ <| ?_
 rintro k sg7 w7 ⟨fr7, hH7, e10_7, h0, hk, hg⟩
 have e2_7 := fr7.pp 2 rfl rfl
 have e3_7 := fr7.pp 3 rfl rfl
 have e9_7 := fr7.ii 9 rfl rfl
 refine SR <| V (run_lss e10_7 e9_7) <| RL.nil <| CW.seq <| CW.condP rfl (fun h9 => ?_) (fun h9 => ?_)
 ·refine CW.skip <| CW.seq <| CW.block <| SR <| vm e10_7 <| aI rfl <| RL.nil <| CW.seq <| CW.regionD (by kernel_rfl) hH7 <| fun w10 hH11 => have zh11 := hH11.sub sR; AQ 0 rfl zh11 (fA underlying29 0 rfl sizeOf26 e2_7) <| AT 1 rfl zh11 (fun w hS => run_ldV (ha.labels.sl.hp hS) underlying26 rfl rfl (hS.cell (i := 1) rfl rfl)) <| AQ 2 rfl zh11 (mV (I _) rfl) <| AT 3 rfl zh11 (fun w hS => run_indexAddrS (ha.labels.sl.hp hS) underlying26 sizeOf51 rfl rfl (by omega)) <| AT 4 rfl zh11 (fun w hS => run_ldElS (ha.labels.sl.hp hS) underlying51 rfl rfl rfl (by omega)) <| AQ 5 rfl zh11 (fA underlying29 0 rfl sizeOf26 e3_7) <| AT 6 rfl zh11 (fun w hS => run_ldV (hb.labels.sl.hp hS) underlying26 rfl rfl (hS.cell (i := 0) rfl rfl)) <| AQ 7 rfl zh11 (mV (I _) rfl) <| A1 8 <| AO.callP rfl gnone rfl hH11 sR (c_assign_at_api_Elem _ _ _ (by omega) _ (hb.labels.sl.hp hH11)) (run_call2 call38 rfl rfl) <| fun w12 hH13 => A1 9 <| AO.callP rfl gnone rfl hH13 sR (c_shape_Leq _ _  _) (run_call2 call37 rfl rfl) <| fun w14 hH15 => AQ 10 rfl (hH15.sub sR) (run_not rfl) <| AD <| CW.cond rfl (fun h18 => ?_) (fun h18 => ?_)
  ·refine SR <| va (v := B false) rfl <| RL.nil <| CW.ret <| outP1 Tryz.results17 (congrArg B ?_) hH15.below
   exact (leqA_1 h0 ‹k < _› (nt ‹(!leqE _ _) = true›)).symm
  ·refine CW.skip <| CW.region <| V (run_add e10_7 rfl (by omega)) <| mI rfl <| RL.nil <| ?_
   refine ⟨k + 1, ?_, fr7.u4.u4.u4.u4, hH15, (congrArg I (by rfl)), ?_, ?_, ?_⟩
   ·((try dsimp only); omega)
   ·omega
   ·omega
   ·exact fun i u v => if e : i = k then e ▸ (nf ‹(!leqE _ _) = false›) else hg i u (by omega)
 ·refine CW.exit (id := 0) rfl <| CW.seq <| SR <| V (fA underlying29 1 rfl sizeOf27 e2_7) <| V (run_ldV (ha.rows.sl.hp hH7) underlying27 rfl rfl (hH7.cell (i := 1) rfl rfl)) <| V (run_lenSl (ha.rows.sl.hp hH7) rfl underlying27 rfl) <| vm (v := I 0) rfl <| RL.nil <| CW.block <| CW.loop (G := Int) (fun j s' w' => (Fr (4 :: (6 :: (rg 28 15 []))) _ s') ∧ (Hp w w' _) ∧ (s' 28 = I j) ∧ (0 ≤ j) ∧ (j ≤ a.rows.length) ∧ (∀ i : Int, 0 ≤ i → i < j → belowL (a.rows.getD i.toNat vr0).l (b.rows.getD i.toNat vr0).l = true)) (fun j => (a.rows.length - j).toNat) (0) ⟨Fr.refl _ _, hH7, rfl, (by omega), (by omega), fun j a b => absurd b (by omega)⟩ <| ?_
  rintro j sg19 w19 ⟨fr19, hH19, e28_19, j0, jk, hr⟩
  have e2_19 := (fr19 2 rfl).trans e2_7
  have e3_19 := (fr19 3 rfl).trans e3_7
  have e27_19 := fr19.ii 27 rfl rfl
  refine SR <| V (run_lss e28_19 e27_19) <| RL.nil <| CW.seq <| CW.condP rfl (fun h21 => ?_) (fun h21 => ?_)
  ·refine CW.skip <| CW.seq <| CW.block <| SR <| vm e28_19 <| aI rfl <| RL.nil <| CW.seq <| CW.regionD (by kernel_rfl) hH19 <| fun w22 hH23 => have zh23 := hH23.sub sR; AQ 0 rfl zh23 (fA underlying29 1 rfl sizeOf27 e2_19) <| AT 1 rfl zh23 (fun w hS => run_ldV (ha.rows.sl.hp hS) underlying27 rfl rfl (hS.cell (i := 1) rfl rfl)) <| AQ 2 rfl zh23 (mV (I _) rfl) <| AT 3 rfl zh23 (fun w hS => run_indexAddrS (ha.rows.sl.hp hS) underlying27 sizeOf48 rfl rfl (by omega)) <| AT 4 rfl zh23 (fun w hS => run_ld underlying48 rfl rfl ((ha.rows.sl.hp hS).cell _ _ (rowsC_at (by omega)))) <| AQ 5 rfl zh23 (fA underlying29 1 rfl sizeOf27 e3_19) <| AT 6 rfl zh23 (fun w hS => run_ldV (hb.rows.sl.hp hS) underlying27 rfl rfl (hS.cell (i := 0) rfl rfl)) <| AQ 7 rfl zh23 (mV (I _) rfl) <| A1 8 <| AO.callP rfl gnone rfl hH23 sR (c_assign_at_api_Value _ _ _ (by omega) _ (hb.rows.sl.hp hH23)) (run_call2 call40 rfl rfl) <| fun w24 hH25 => A1 9 <| AO.callP rfl gnone rfl hH25 sR (c_assign_below _ _ _ _  _ ((ha.at (by omega) (by omega)).sl.hp hH25) ((hb.each.or j.toNat).sl.hp hH25)) (run_call2 call39 rfl rfl) <| fun w26 hH27 => AQ 10 rfl (hH27.sub sR) (run_not rfl) <| AD <| CW.cond rfl (fun h30 => ?_) (fun h30 => ?_)
   ·refine SR <| va (v := B false) rfl <| RL.nil <| CW.ret <| outP1 Tryz.results17 (congrArg B ?_) hH27.below
    exact (leqA_2 j0 ‹j < _› (nt ‹(!belowL _ _) = true›)).symm
   ·refine CW.skip <| CW.region <| V (run_add e28_19 rfl (by omega)) <| mI rfl <| RL.nil <| ?_
    refine ⟨j + 1, ?_, fr19.u4.u4.u4.u4, hH27, (congrArg I (by rfl)), ?_, ?_, ?_⟩
    ·((try dsimp only); omega)
    ·omega
    ·omega
    ·exact fun i u v => if e : i = j then e ▸ (nf ‹(!belowL _ _) = false›) else hr i u (by omega)
  ·refine CW.exit (id := 2) rfl <| SR <| va (v := B true) rfl <| RL.nil <| CW.ret <| outP1 Tryz.results17 (congrArg B ?_) hH19.below
   exact (leqA_y ‹¬ k < _› hg ‹¬ j < _› hr).symm
set_option maxHeartbeats 2000000 in
theorem c_assign_Right (s : Scp) (a : Asg) (w : World) (hs : ScpV (Kw w) s) (ha : AsgV (Kw w) a) (hT : Tab w) : Calls Tryz.prog 9 #[.agg (scpC s), .agg (asgL a).toArray] w (Pure (B (rightA s.sc a.as)) w) := by
 have hm1 := hs.lats.sl.small
 have hm2 := hs.vars.sl.small
 unfold maxLen at hm1 hm2
 have hm3 := ha.labels.small
 have hm4 := ha.rows.small
 unfold maxLen at hm3 hm4
 refine enter Tryz.func9 rfl Tryz.ntmps9 rfl <| have hH := Hp.start w; SR <| RL.new rfl hH (f := fun b => (.pointer (some ⟨b, 0, none⟩))) (run_box (v := .agg _) rfl) <| fun b3 w1 hH2 => RL.new rfl hH2 (f := fun b => (.pointer (some ⟨b, 0, none⟩))) (run_box (v := .agg _) rfl) <| fun b6 w4 hH5 => va (v := B false) rfl <| RL.nil <| CW.seq <| SR <| V (fA underlying29 0 rfl sizeOf26 rfl) <| V (run_ldV (ha.labels.sl.hp hH5) underlying26 rfl rfl (hH5.cell (i := 0) rfl rfl)) <| V (run_lenSl (ha.labels.sl.hp hH5) rfl underlying26 rfl) <| V (fA underlying25 1 rfl sizeOf23 rfl) <| V (run_ldV (hs.vars.sl.hp hH5) underlying23 rfl rfl (hH5.cell (i := 1) rfl rfl)) <| V (run_lenSl (hs.vars.sl.hp hH5) rfl underlying23 rfl) <| V (run_neq rfl rfl) <| mB rfl <| RL.splitP (dj := 15) rfl (fun h8 => ?_) (fun h8 => ?_)
 ·refine gF rfl (bT h8) <| gF rfl (bT h8) <| gF rfl (bT h8) <| gF rfl (bT h8) <| gF rfl (bT h8) <| gF rfl (bT h8) <| gF rfl (bT h8) <| V (run_pickT (bT h8) (v := B true) rfl) <| RL.nil <| CW.condT rfl <| SR <| va (v := B false) rfl <| RL.nil <| CW.ret <| outP1 Tryz.results9 (congrArg B ?_) hH5.below
  exact (right_1 (by omega)).symm
 ·refine gT rfl (bF h8) <| V (fA underlying29 1 rfl sizeOf27 rfl) <| gT rfl (bF h8) <| V (run_ldV (ha.rows.sl.hp hH5) underlying27 rfl rfl (hH5.cell (i := 0) rfl rfl)) <| gT rfl (bF h8) <| V (run_lenSl (ha.rows.sl.hp hH5) rfl underlying27 rfl) <| gT rfl (bF h8) <| V (fA underlying25 1 rfl sizeOf23 rfl) <| gT rfl (bF h8) <| V (run_ldV (hs.vars.sl.hp hH5) underlying23 rfl rfl (hH5.cell (i := 1) rfl rfl)) <| gT rfl (bF h8) <| V (run_lenSl (hs.vars.sl.hp hH5) rfl underlying23 rfl) <| gT rfl (bF h8) <| V (run_neq rfl rfl) <| V (run_pickF (bF h8) (v := B _) rfl) <| RL.nil <| CW.condP rfl (fun h10 => ?_) (fun h10 => ?_)
  ·refine SR <| va (v := B false) rfl <| RL.nil <| CW.ret <| outP1 Tryz.results9 (congrArg B ?_) hH5.below
   exact (right_2 (by omega)).symm
  ·refine CW.skip <| CW.seq <| SR <| V (fA underlying25 1 rfl sizeOf23 rfl) <| V (run_ldV (hs.vars.sl.hp hH5) underlying23 rfl rfl (hH5.cell (i := 1) rfl rfl)) <| V (run_lenSl (hs.vars.sl.hp hH5) rfl underlying23 rfl) <| vm (v := I 0) rfl <| RL.nil <| CW.block <| have e1 : (a.labels.length : Int) = s.vars.length := (by omega); have e2 : (a.rows.length : Int) = s.vars.length := (by omega); CW.loop (G := Int) (fun k s' w' => (Fr (rg 4 4 (rg 27 73 [])) _ s') ∧ (Hp w w' _) ∧ (s' 27 = I k) ∧ (0 ≤ k) ∧ (k ≤ s.vars.length) ∧ (∀ i : Int, 0 ≤ i → i < k → okG s a i = true)) (fun k => (s.vars.length - k).toNat) (0) ⟨Fr.refl _ _, hH5, rfl, (by omega), (by omega), fun j a b => absurd b (by omega)⟩ <| ?_
   rintro k sg11 w11 ⟨fr11, hH11, e27_11, h0, hk, hg⟩
   have e2_11 := fr11.pp 2 rfl rfl
   have e3_11 := fr11.pp 3 rfl rfl
   have e25_11 := (fr11 25 rfl).trans (by conv => lhs; whnf)
   have e26_11 := fr11.ii 26 rfl rfl
   refine SR <| V (run_lss e27_11 e26_11) <| RL.nil <| CW.seq <| CW.condP rfl (fun h13 => ?_) (fun h13 => ?_)
   ·refine CW.skip <| CW.seq <| CW.block <| SR <| vm e27_11 <| V (run_indexAddrS (hs.vars.sl.hp hH11) underlying23 sizeOf47 e25_11 e27_11 (by omega)) <| V (run_ldE (dv := var0) varL_len (hs.vars.sl.hp hH11) underlying47 rfl rfl rfl (by omega)) <| RL.new rfl hH11 (f := fun b => (.pointer (some ⟨b, 0, none⟩))) (run_alloc Tryz.zeroValue47) <| fun b16 w14 hH15 => aI rfl <| RL.set hH15 (i := 0) rfl (run_stW (c' := (varL _).toArray) rfl rfl rfl (by simp [varL, Value.oneCell']) (hH15.blk (i := 0) rfl) rfl) <| fun w17 hH18 => ?_
    simp only [z2] at hH18
    refine RL.nil <| CW.seq <| SR <| V (fA underlying47 2 rfl sizeOf3 rfl) <| V (run_ld underlying3 rfl rfl (hH18.cell (i := 0) rfl (v := I _) rfl)) <| V (run_lss rfl rfl) <| mB rfl <| RL.splitP (dj := 35) rfl (fun h20 => ?_) (fun h20 => ?_)
    ·refine gF rfl (bT h20) <| gF rfl (bT h20) <| gF rfl (bT h20) <| gF rfl (bT h20) <| gF rfl (bT h20) <| gF rfl (bT h20) <| V (run_pickT (bT h20) (v := B true) rfl) <| RL.nil <| CW.condT rfl <| SR <| va (v := B false) rfl <| RL.nil <| CW.ret <| outP1 Tryz.results9 (congrArg B ?_) hH18.below
     exact (right_3 h0 ‹k < _› (ok_n0 (by omega))).symm
    ·refine gT rfl (bF h20) <| V (fA underlying47 2 rfl sizeOf3 rfl) <| gT rfl (bF h20) <| V (run_ld underlying3 rfl rfl (hH18.cell (i := 0) rfl (v := I _) rfl)) <| gT rfl (bF h20) <| V (fA underlying25 0 rfl sizeOf22 e2_11) <| gT rfl (bF h20) <| V (run_ldV (hs.lats.sl.hp hH18) underlying22 rfl rfl (hH18.cell (i := 2) rfl rfl)) <| gT rfl (bF h20) <| V (run_lenSl (hs.lats.sl.hp hH18) rfl underlying22 rfl) <| gT rfl (bF h20) <| V (run_geq rfl rfl) <| V (run_pickF (bF h20) (v := B _) rfl) <| RL.nil <| CW.condP rfl (fun h22 => ?_) (fun h22 => ?_)
     ·refine SR <| va (v := B false) rfl <| RL.nil <| CW.ret <| outP1 Tryz.results9 (congrArg B ?_) hH18.below
      exact (right_3 h0 ‹k < _› (ok_n0 (by omega))).symm
     ·refine CW.skip <| SR <| V (fA underlying25 0 rfl sizeOf22 e2_11) <| V (run_ldV (hs.lats.sl.hp hH18) underlying22 rfl rfl (hH18.cell (i := 2) rfl rfl)) <| V (fA underlying47 2 rfl sizeOf3 rfl) <| V (run_ld underlying3 rfl rfl (hH18.cell (i := 0) rfl (v := I _) rfl)) <| V (run_indexAddrS (hs.lats.sl.hp hH18) underlying22 sizeOf44 rfl rfl (by omega)) <| V (fA underlying44 1 rfl sizeOf42 rfl) <| V (run_ldEA (dv := lat0) (off := 1) (cs := shpL _) latL_len (hs.lats.sl.hp hH18) underlying42 rfl rfl rfl (by omega) (lat_shp _)) <| RL.new rfl hH18 (f := fun b => (.pointer (some ⟨b, 0, none⟩))) (run_alloc Tryz.zeroValue42) <| fun b25 w23 hH24 => RL.set hH24 (i := 0) rfl (run_stShp (hs.at (by omega) (by omega)) rfl rfl rfl (hH24.blk (i := 0) rfl) rfl) <| fun w26 hH27 => ?_
      simp only [z2] at hH27
      refine RL.nil <| SR <| V (fA underlying47 1 rfl sizeOf3 rfl) <| V (run_ld underlying3 rfl rfl (hH27.cell (i := 1) rfl (v := I _) rfl)) <| RL.nil <| CW.block <| SR <| V (run_eql rfl rfl) <| aB rfl <| RL.nil <| CW.condP rfl (fun h29 => ?_) (fun h29 => ?_)
      ·refine CW.seq <| CW.regionD (by kernel_rfl) hH27 <| fun w30 hH31 => have zh31 := hH31.sub sR; AQ 0 rfl zh31 (fA underlying29 1 rfl sizeOf27 e3_11) <| AT 1 rfl zh31 (fun w hS => run_ldV (ha.rows.sl.hp hS) underlying27 rfl rfl (hS.cell (i := 2) rfl rfl)) <| AQ 2 rfl zh31 (mV (I _) rfl) <| AT 3 rfl zh31 (fun w hS => run_indexAddrS (ha.rows.sl.hp hS) underlying27 sizeOf48 rfl rfl (by omega)) <| AT 4 rfl zh31 (fun w hS => run_ld underlying48 rfl rfl ((ha.rows.sl.hp hS).cell _ _ (rowsC_at (by omega)))) <| AT 5 rfl zh31 (fun w hS => run_lenSl ((ha.at (by omega) (by omega)).sl.hp hS) rfl underlying48 rfl) <| AQ 6 rfl zh31 (run_gtr rfl rfl) <| AQ 7 rfl zh31 (mV (B _) rfl) <| AN.splitP (dj := 61) rfl (fun h33 => ?_) (fun h33 => ?_)
       ·refine AK 8 rfl rfl (bT h33) (hH31.sub sR) <| AK 9 rfl rfl (bT h33) (hH31.sub sR) <| AK 10 rfl rfl (bT h33) (hH31.sub sR) <| AK 11 rfl rfl (bT h33) (hH31.sub sR) <| AK 12 rfl rfl (bT h33) (hH31.sub sR) <| AK 13 rfl rfl (bT h33) (hH31.sub sR) <| AK 14 rfl rfl (bT h33) (hH31.sub sR) <| AK 15 rfl rfl (bT h33) (hH31.sub sR) <| AQ 16 rfl zh31 (run_pickT (bT h33) (v := B true) rfl) <| AD <| CW.condT rfl <| SR <| va (v := B false) rfl <| RL.nil <| CW.ret <| outP1 Tryz.results9 (congrArg B ?_) hH31.below
        exact (right_3 h0 ‹k < _› (ok_1a (by omega) (by omega))).symm
       ·refine AG 8 rfl rfl (bF h33) (hH31.sub sR) (fun w hS => run_ldA (cs := [B _, _]) underlying42 rfl rfl rfl (rangeAt_cells (hS.blk (i := 0) rfl))) <| AG 9 rfl rfl (bF h33) (hH31.sub sR) (fun w hS => fA underlying29 0 rfl sizeOf26 e3_11) <| AG 10 rfl rfl (bF h33) (hH31.sub sR) (fun w hS => run_ldV (ha.labels.sl.hp hS) underlying26 rfl rfl (hS.cell (i := 2) rfl rfl)) <| AG 11 rfl rfl (bF h33) (hH31.sub sR) (fun w hS => mV (I _) rfl) <| AG 12 rfl rfl (bF h33) (hH31.sub sR) (fun w hS => run_indexAddrS (ha.labels.sl.hp hS) underlying26 sizeOf51 rfl rfl (by omega)) <| AG 13 rfl rfl (bF h33) (hH31.sub sR) (fun w hS => run_ldElS (ha.labels.sl.hp hS) underlying51 rfl rfl rfl (by omega)) <| A1 14 <| AO.callP rfl (gsome rfl (bF h33)) rfl hH31 sR (c_shape_Fits _ _  _ ((hs.at (by omega) (by omega)).mono hH31.kw) (hT.hp hH31)) (run_call2 call24 rfl rfl) <| fun w34 hH35 => AG 15 rfl rfl (bF h33) (hH35.sub sR) (fun w hS => run_not rfl) <| AQ 16 rfl (hH35.sub sR) (run_pickF (bF h33) (v := B _) rfl) <| AD <| CW.cond rfl (fun h38 => ?_) (fun h38 => ?_)
        ·refine SR <| va (v := B false) rfl <| RL.nil <| CW.ret <| outP1 Tryz.results9 (congrArg B ?_) hH35.below
         exact (right_3 h0 ‹k < _› (ok_1b (by omega) (nt ‹(!fitsS _ _) = true›))).symm
        ·refine CW.skip <| CW.region <| V (run_add e27_11 rfl (by omega)) <| mI rfl <| RL.nil <| ?_
         refine ⟨k + 1, ?_, fr11.u4.u4.u4.u4.u4.u4.u4.u4.u4.u4.u4.u4, (hH35.sub (sQ (sQ sR))), (congrArg I (by rfl)), ?_, ?_, ?_⟩
         ·((try dsimp only); omega)
         ·omega
         ·omega
         ·exact fun i u v => if e : i = k then e ▸ (by exact ok_y1 ⟨by omega, by omega⟩ (by omega) (by omega) (nf ‹(!fitsS _ _) = false›)) else hg i u (by omega)
      ·refine SR <| V (run_eql rfl rfl) <| aB rfl <| RL.nil <| CW.condP rfl (fun h40 => ?_) (fun h40 => ?_)
       ·refine CW.seq <| CW.regionD (by kernel_rfl) hH27 <| fun w41 hH42 => have zh42 := hH42.sub sR; AQ 0 rfl zh42 (fA underlying29 0 rfl sizeOf26 e3_11) <| AT 1 rfl zh42 (fun w hS => run_ldV (ha.labels.sl.hp hS) underlying26 rfl rfl (hS.cell (i := 2) rfl rfl)) <| AQ 2 rfl zh42 (mV (I _) rfl) <| AT 3 rfl zh42 (fun w hS => run_indexAddrS (ha.labels.sl.hp hS) underlying26 sizeOf51 rfl rfl (by omega)) <| AT 4 rfl zh42 (fun w hS => run_ldElS (ha.labels.sl.hp hS) underlying51 rfl rfl rfl (by omega)) <| AQ 5 rfl zh42 (run_bld (vs := []) rfl (built_el0)) <| AQ 6 rfl zh42 (run_neqEl elT_fact rfl rfl) <| AQ 7 rfl zh42 (mV (B _) rfl) <| AN.split (dj := 80) rfl (fun h44 => ?_) (fun h44 => ?_)
        ·refine AK 8 rfl rfl (bR (c := true) h44) (hH42.sub sR) <| AK 9 rfl rfl (bR (c := true) h44) (hH42.sub sR) <| AK 10 rfl rfl (bR (c := true) h44) (hH42.sub sR) <| AK 11 rfl rfl (bR (c := true) h44) (hH42.sub sR) <| AK 12 rfl rfl (bR (c := true) h44) (hH42.sub sR) <| AK 13 rfl rfl (bR (c := true) h44) (hH42.sub sR) <| AK 14 rfl rfl (bR (c := true) h44) (hH42.sub sR) <| AQ 15 rfl zh42 (run_pickT (bR (c := true) h44) (v := B true) rfl) <| AQ 16 rfl zh42 (mV (B _) rfl) <| AK 17 rfl rfl rfl (hH42.sub sR) <| AK 18 rfl rfl rfl (hH42.sub sR) <| AK 19 rfl rfl rfl (hH42.sub sR) <| AK 20 rfl rfl rfl (hH42.sub sR) <| AK 21 rfl rfl rfl (hH42.sub sR) <| AK 22 rfl rfl rfl (hH42.sub sR) <| AK 23 rfl rfl rfl (hH42.sub sR) <| AK 24 rfl rfl rfl (hH42.sub sR) <| AQ 25 rfl zh42 (run_pickT rfl (v := B true) rfl) <| AD <| CW.condT rfl <| SR <| va (v := B false) rfl <| RL.nil <| CW.ret <| outP1 Tryz.results9 (congrArg B ?_) hH42.below
         exact (right_3 h0 ‹k < _› (ok_2a (by omega) (nt ‹(!decide (eqE _ _)) = true›))).symm
        ·refine AG 8 rfl rfl (bR (c := false) h44) (hH42.sub sR) (fun w hS => fA underlying29 1 rfl sizeOf27 e3_11) <| AG 9 rfl rfl (bR (c := false) h44) (hH42.sub sR) (fun w hS => run_ldV (ha.rows.sl.hp hS) underlying27 rfl rfl (hS.cell (i := 2) rfl rfl)) <| AG 10 rfl rfl (bR (c := false) h44) (hH42.sub sR) (fun w hS => mV (I _) rfl) <| AG 11 rfl rfl (bR (c := false) h44) (hH42.sub sR) (fun w hS => run_indexAddrS (ha.rows.sl.hp hS) underlying27 sizeOf48 rfl rfl (by omega)) <| AG 12 rfl rfl (bR (c := false) h44) (hH42.sub sR) (fun w hS => run_ld underlying48 rfl rfl ((ha.rows.sl.hp hS).cell _ _ (rowsC_at (by omega)))) <| A1 13 <| AO.callP rfl (gsome rfl (bR (c := false) h44)) rfl hH42 sR (c_assign_ordered _ _  _ ((ha.at (by omega) (by omega)).sl.hp hH42)) (run_call1 call25 rfl) <| fun w45 hH46 => AG 14 rfl rfl (bR (c := false) h44) (hH46.sub sR) (fun w hS => run_not rfl) <| have zh46 := hH46.sub sR; AQ 15 rfl zh46 (run_pickF (bR (c := false) h44) (v := B _) rfl) <| AQ 16 rfl zh46 (mV (B _) rfl) <| AN.split (dj := 89) rfl (fun h49 => ?_) (fun h49 => ?_)
         ·refine AK 17 rfl rfl (bR (c := true) h49) (hH46.sub sR) <| AK 18 rfl rfl (bR (c := true) h49) (hH46.sub sR) <| AK 19 rfl rfl (bR (c := true) h49) (hH46.sub sR) <| AK 20 rfl rfl (bR (c := true) h49) (hH46.sub sR) <| AK 21 rfl rfl (bR (c := true) h49) (hH46.sub sR) <| AK 22 rfl rfl (bR (c := true) h49) (hH46.sub sR) <| AK 23 rfl rfl (bR (c := true) h49) (hH46.sub sR) <| AK 24 rfl rfl (bR (c := true) h49) (hH46.sub sR) <| AQ 25 rfl zh46 (run_pickT (bR (c := true) h49) (v := B true) rfl) <| AD <| CW.condT rfl <| SR <| va (v := B false) rfl <| RL.nil <| CW.ret <| outP1 Tryz.results9 (congrArg B ?_) hH46.below
          exact (right_3 h0 ‹k < _› (ok_2b (by omega) (nt ‹(!orderedF _) = true›))).symm
         ·refine AG 17 rfl rfl (bR (c := false) h49) (hH46.sub sR) (fun w hS => run_ldA (cs := [B _, _]) underlying42 rfl rfl rfl (rangeAt_cells (hS.blk (i := 0) rfl))) <| AG 18 rfl rfl (bR (c := false) h49) (hH46.sub sR) (fun w hS => fA underlying29 1 rfl sizeOf27 e3_11) <| AG 19 rfl rfl (bR (c := false) h49) (hH46.sub sR) (fun w hS => run_ldV (ha.rows.sl.hp hS) underlying27 rfl rfl (hS.cell (i := 2) rfl rfl)) <| AG 20 rfl rfl (bR (c := false) h49) (hH46.sub sR) (fun w hS => mV (I _) rfl) <| AG 21 rfl rfl (bR (c := false) h49) (hH46.sub sR) (fun w hS => run_indexAddrS (ha.rows.sl.hp hS) underlying27 sizeOf48 rfl rfl (by omega)) <| AG 22 rfl rfl (bR (c := false) h49) (hH46.sub sR) (fun w hS => run_ld underlying48 rfl rfl ((ha.rows.sl.hp hS).cell _ _ (rowsC_at (by omega)))) <| A1 23 <| AO.callP rfl (gsome rfl (bR (c := false) h49)) rfl hH46 sR (c_assign_fits _ _ _  _ ((ha.at (by omega) (by omega)).sl.hp hH46) ((hs.at (by omega) (by omega)).mono hH46.kw) (hT.hp hH46)) (run_call2 call26 rfl rfl) <| fun w50 hH51 => AG 24 rfl rfl (bR (c := false) h49) (hH51.sub sR) (fun w hS => run_not rfl) <| AQ 25 rfl (hH51.sub sR) (run_pickF (bR (c := false) h49) (v := B _) rfl) <| AD <| CW.cond rfl (fun h54 => ?_) (fun h54 => ?_)
          ·refine SR <| va (v := B false) rfl <| RL.nil <| CW.ret <| outP1 Tryz.results9 (congrArg B ?_) hH51.below
           exact (right_3 h0 ‹k < _› (ok_2c (by omega) (nt ‹(!fitsF _ _) = true›))).symm
          ·refine CW.skip <| CW.region <| V (run_add e27_11 rfl (by omega)) <| mI rfl <| RL.nil <| ?_
           refine ⟨k + 1, ?_, fr11.u4.u4.u4.u4.u4.u4.u4.u4.u4.u4.u4.u4.u4.u4.u1.u1.u1, (hH51.sub (sQ (sQ sR))), (congrArg I (by rfl)), ?_, ?_, ?_⟩
           ·((try dsimp only); omega)
           ·omega
           ·omega
           ·exact fun i u v => if e : i = k then e ▸ (by exact ok_y2 ⟨by omega, by omega⟩ (by omega) (nf ‹(!decide (eqE _ _)) = false›) (nf ‹(!orderedF _) = false›) (nf ‹(!fitsF _ _) = false›)) else hg i u (by omega)
       ·refine SR <| va (v := B false) rfl <| RL.nil <| CW.ret <| outP1 Tryz.results9 (congrArg B ?_) hH27.below
        exact (right_3 h0 ‹k < _› (ok_x (by omega) (by omega))).symm
   ·refine CW.exit (id := 0) rfl <| SR <| va (v := B true) rfl <| RL.nil <| CW.ret <| outP1 Tryz.results9 (congrArg B ?_) hH11.below
    exact (right_y e1 e2 ‹¬ k < _› hg).symm
set_option maxHeartbeats 2000000 in
theorem c_clearanceref18_Right (s : Scp) (a : Asg) (w : World) (hs : ScpV (Kw w) s) (ha : AsgV (Kw w) a) : Calls Tryz.prog 10 #[.agg (scpC s), .agg (asgL a).toArray] w (Pure (B (rightA s.sc a.as)) w) := by
 have hm1 := hs.lats.sl.small
 have hm2 := hs.vars.sl.small
 unfold maxLen at hm1 hm2
 have hm3 := ha.labels.small
 have hm4 := ha.rows.small
 unfold maxLen at hm3 hm4
 refine enter Tryz.func10 rfl Tryz.ntmps10 rfl <| have hH := Hp.start w; SR <| RL.new rfl hH (f := fun b => (.pointer (some ⟨b, 0, none⟩))) (run_box (v := .agg _) rfl) <| fun b3 w1 hH2 => RL.new rfl hH2 (f := fun b => (.pointer (some ⟨b, 0, none⟩))) (run_box (v := .agg _) rfl) <| fun b6 w4 hH5 => va (v := B false) rfl <| RL.nil <| CW.seq <| SR <| V (fA underlying29 0 rfl sizeOf26 rfl) <| V (run_ldV (ha.labels.sl.hp hH5) underlying26 rfl rfl (hH5.cell (i := 0) rfl rfl)) <| V (run_lenSl (ha.labels.sl.hp hH5) rfl underlying26 rfl) <| V (fA underlying25 1 rfl sizeOf23 rfl) <| V (run_ldV (hs.vars.sl.hp hH5) underlying23 rfl rfl (hH5.cell (i := 1) rfl rfl)) <| V (run_lenSl (hs.vars.sl.hp hH5) rfl underlying23 rfl) <| V (run_neq rfl rfl) <| mB rfl <| RL.splitP (dj := 16) rfl (fun h8 => ?_) (fun h8 => ?_)
 ·refine gF rfl (bT h8) <| gF rfl (bT h8) <| gF rfl (bT h8) <| gF rfl (bT h8) <| gF rfl (bT h8) <| gF rfl (bT h8) <| gF rfl (bT h8) <| V (run_pickT (bT h8) (v := B true) rfl) <| RL.nil <| CW.condT rfl <| SR <| va (v := B false) rfl <| RL.nil <| CW.ret <| outP1 Tryz.results10 (congrArg B ?_) hH5.below
  exact (right_1 (by omega)).symm
 ·refine gT rfl (bF h8) <| V (fA underlying29 1 rfl sizeOf27 rfl) <| gT rfl (bF h8) <| V (run_ldV (ha.rows.sl.hp hH5) underlying27 rfl rfl (hH5.cell (i := 0) rfl rfl)) <| gT rfl (bF h8) <| V (run_lenSl (ha.rows.sl.hp hH5) rfl underlying27 rfl) <| gT rfl (bF h8) <| V (fA underlying25 1 rfl sizeOf23 rfl) <| gT rfl (bF h8) <| V (run_ldV (hs.vars.sl.hp hH5) underlying23 rfl rfl (hH5.cell (i := 1) rfl rfl)) <| gT rfl (bF h8) <| V (run_lenSl (hs.vars.sl.hp hH5) rfl underlying23 rfl) <| gT rfl (bF h8) <| V (run_neq rfl rfl) <| V (run_pickF (bF h8) (v := B _) rfl) <| RL.nil <| CW.condP rfl (fun h10 => ?_) (fun h10 => ?_)
  ·refine SR <| va (v := B false) rfl <| RL.nil <| CW.ret <| outP1 Tryz.results10 (congrArg B ?_) hH5.below
   exact (right_2 (by omega)).symm
  ·refine CW.skip <| CW.seq <| SR <| va (v := I 0) rfl <| RL.nil <| CW.block <| have e1 : (a.labels.length : Int) = s.vars.length := (by omega); have e2 : (a.rows.length : Int) = s.vars.length := (by omega); CW.loop (G := Int) (fun k s' w' => (Fr (rg 4 5 (rg 25 105 [])) _ s') ∧ (Hp w w' _) ∧ (s' 5 = I k) ∧ (0 ≤ k) ∧ (k ≤ s.vars.length) ∧ (∀ i : Int, 0 ≤ i → i < k → okG s a i = true)) (fun k => (s.vars.length - k).toNat) (0) ⟨Fr.refl _ _, hH5, rfl, (by omega), (by omega), fun j a b => absurd b (by omega)⟩ <| ?_
   rintro k sg11 w11 ⟨fr11, hH11, e5_11, h0, hk, hg⟩
   have e2_11 := fr11.pp 2 rfl rfl
   have e3_11 := fr11.pp 3 rfl rfl
   refine CW.seq <| SR <| vm e5_11 <| V (fA underlying25 1 rfl sizeOf23 e2_11) <| V (run_ldV (hs.vars.sl.hp hH11) underlying23 rfl rfl (hH11.cell (i := 1) rfl rfl)) <| V (run_lenSl (hs.vars.sl.hp hH11) rfl underlying23 rfl) <| V (run_lss rfl rfl) <| RL.nil <| CW.condP rfl (fun h13 => ?_) (fun h13 => ?_)
   ·refine CW.skip <| CW.seq <| CW.block <| SR <| V (fA underlying25 1 rfl sizeOf23 e2_11) <| V (run_ldV (hs.vars.sl.hp hH11) underlying23 rfl rfl (hH11.cell (i := 1) rfl rfl)) <| vm e5_11 <| V (run_indexAddrS (hs.vars.sl.hp hH11) underlying23 sizeOf47 rfl rfl (by omega)) <| V (run_ldE (dv := var0) varL_len (hs.vars.sl.hp hH11) underlying47 rfl rfl rfl (by omega)) <| RL.new rfl hH11 (f := fun b => (.pointer (some ⟨b, 0, none⟩))) (run_alloc Tryz.zeroValue47) <| fun b16 w14 hH15 => RL.set hH15 (i := 0) rfl (run_stW (c' := (varL _).toArray) rfl rfl rfl (by simp [varL, Value.oneCell']) (hH15.blk (i := 0) rfl) rfl) <| fun w17 hH18 => ?_
    simp only [z2] at hH18
    refine RL.nil <| CW.seq <| SR <| V (fA underlying47 2 rfl sizeOf3 rfl) <| V (run_ld underlying3 rfl rfl (hH18.cell (i := 0) rfl (v := I _) rfl)) <| V (run_lss rfl rfl) <| mB rfl <| RL.splitP (dj := 40) rfl (fun h20 => ?_) (fun h20 => ?_)
    ·refine gF rfl (bT h20) <| gF rfl (bT h20) <| gF rfl (bT h20) <| gF rfl (bT h20) <| gF rfl (bT h20) <| gF rfl (bT h20) <| V (run_pickT (bT h20) (v := B true) rfl) <| mB rfl <| gF rfl rfl <| gF rfl rfl <| gF rfl rfl <| gF rfl rfl <| RL.gU rfl rfl rfl <| RL.gU rfl rfl rfl <| RL.gU rfl rfl rfl <| gF rfl rfl <| V (run_pickT rfl (v := B true) rfl) <| RL.nil <| CW.condT rfl <| SR <| va (v := B false) rfl <| RL.nil <| CW.ret <| outP1 Tryz.results10 (congrArg B ?_) hH18.below
     exact (right_3 h0 ‹k < _› (ok_n0 (by omega))).symm
    ·refine gT rfl (bF h20) <| V (fA underlying47 2 rfl sizeOf3 rfl) <| gT rfl (bF h20) <| V (run_ld underlying3 rfl rfl (hH18.cell (i := 0) rfl (v := I _) rfl)) <| gT rfl (bF h20) <| V (fA underlying25 0 rfl sizeOf22 e2_11) <| gT rfl (bF h20) <| V (run_ldV (hs.lats.sl.hp hH18) underlying22 rfl rfl (hH18.cell (i := 2) rfl rfl)) <| gT rfl (bF h20) <| V (run_lenSl (hs.lats.sl.hp hH18) rfl underlying22 rfl) <| gT rfl (bF h20) <| V (run_geq rfl rfl) <| V (run_pickF (bF h20) (v := B _) rfl) <| mB rfl <| RL.splitP (dj := 48) rfl (fun h22 => ?_) (fun h22 => ?_)
     ·refine gF rfl (bT h22) <| gF rfl (bT h22) <| gF rfl (bT h22) <| gF rfl (bT h22) <| RL.gU rfl rfl rfl <| RL.gU rfl rfl rfl <| RL.gU rfl rfl rfl <| gF rfl (bT h22) <| V (run_pickT (bT h22) (v := B true) rfl) <| RL.nil <| CW.condT rfl <| SR <| va (v := B false) rfl <| RL.nil <| CW.ret <| outP1 Tryz.results10 (congrArg B ?_) hH18.below
      exact (right_3 h0 ‹k < _› (ok_n0 (by omega))).symm
     ·refine gT rfl (bF h22) <| V (fA underlying47 1 rfl sizeOf3 rfl) <| gT rfl (bF h22) <| V (run_ld underlying3 rfl rfl (hH18.cell (i := 0) rfl (v := I _) rfl)) <| gT rfl (bF h22) <| V (run_neq rfl rfl) <| gT rfl (bF h22) <| mB rfl <| RL.splitP (dj := 52) rfl (fun h24 => ?_) (fun h24 => ?_)
      ·refine gT rfl (bT h24) <| V (fA underlying47 1 rfl sizeOf3 rfl) <| gT rfl (bT h24) <| V (run_ld underlying3 rfl rfl (hH18.cell (i := 0) rfl (v := I _) rfl)) <| gT rfl (bT h24) <| V (run_neq rfl rfl) <| gT rfl (bF h22) <| V (run_pickT (bT h24) (v := B _) rfl) <| V (run_pickF (bF h22) (v := B _) rfl) <| RL.nil <| CW.condP rfl (fun h26 => ?_) (fun h26 => ?_)
       ·refine SR <| va (v := B false) rfl <| RL.nil <| CW.ret <| outP1 Tryz.results10 (congrArg B ?_) hH18.below
        exact (right_3 h0 ‹k < _› (ok_x (by omega) (by omega))).symm
       ·refine CW.skip <| SR <| V (fA underlying25 0 rfl sizeOf22 e2_11) <| V (run_ldV (hs.lats.sl.hp hH18) underlying22 rfl rfl (hH18.cell (i := 2) rfl rfl)) <| V (fA underlying47 2 rfl sizeOf3 rfl) <| V (run_ld underlying3 rfl rfl (hH18.cell (i := 0) rfl (v := I _) rfl)) <| V (run_indexAddrS (hs.lats.sl.hp hH18) underlying22 sizeOf44 rfl rfl (by omega)) <| V (fA underlying44 1 rfl sizeOf42 rfl) <| V (run_ldEA (dv := lat0) (off := 1) (cs := shpL _) latL_len (hs.lats.sl.hp hH18) underlying42 rfl rfl rfl (by omega) (lat_shp _)) <| RL.new rfl hH18 (f := fun b => (.pointer (some ⟨b, 0, none⟩))) (run_alloc Tryz.zeroValue42) <| fun b29 w27 hH28 => RL.set hH28 (i := 0) rfl (run_stShp (hs.at (by omega) (by omega)) rfl rfl rfl (hH28.blk (i := 0) rfl) rfl) <| fun w30 hH31 => ?_
        simp only [z2] at hH31
        refine RL.nil <| CW.seq <| CW.seq <| CW.regionD (by kernel_rfl) hH31 <| fun w32 hH33 => have zh33 := hH33.sub sR; AQ 0 rfl zh33 (fA underlying47 1 rfl sizeOf3 rfl) <| AT 1 rfl zh33 (fun w hS => run_ld underlying3 rfl rfl (hS.cell (i := 1) rfl (v := I _) rfl)) <| AQ 2 rfl zh33 (run_eql rfl rfl) <| AQ 3 rfl zh33 (mV (B _) rfl) <| AN.splitP (dj := 68) rfl (fun h35 => ?_) (fun h35 => ?_)
        ·refine AG 4 rfl rfl (bT h35) (hH33.sub sR) (fun w hS => run_ldA (cs := [B _, _]) underlying42 rfl rfl rfl (rangeAt_cells (hS.blk (i := 0) rfl))) <| AG 5 rfl rfl (bT h35) (hH33.sub sR) (fun w hS => fA underlying29 0 rfl sizeOf26 e3_11) <| AG 6 rfl rfl (bT h35) (hH33.sub sR) (fun w hS => run_ldV (ha.labels.sl.hp hS) underlying26 rfl rfl (hS.cell (i := 2) rfl rfl)) <| AG 7 rfl rfl (bT h35) (hH33.sub sR) (fun w hS => run_move e5_11) <| AG 8 rfl rfl (bT h35) (hH33.sub sR) (fun w hS => run_indexAddrS (ha.labels.sl.hp hS) underlying26 sizeOf51 rfl rfl (by omega)) <| AG 9 rfl rfl (bT h35) (hH33.sub sR) (fun w hS => run_ldElS (ha.labels.sl.hp hS) underlying51 rfl rfl rfl (by omega)) <| A1 10 <| AO.callP rfl (gsome rfl (bT h35)) rfl hH33 sR (c_clearanceref07_Fits _ _  _ ((hs.at (by omega) (by omega)).mono hH33.kw)) (run_call2 call27 rfl rfl) <| fun w36 hH37 => AG 11 rfl rfl (bT h35) (hH37.sub sR) (fun w hS => run_not rfl) <| AG 12 rfl rfl (bT h35) (hH37.sub sR) (fun w hS => mV (B _) rfl) <| AN.split (dj := 77) rfl (fun h40 => ?_) (fun h40 => ?_)
         ·refine AK 13 rfl rfl (bR (c := true) h40) (hH37.sub sR) <| AK 14 rfl rfl (bR (c := true) h40) (hH37.sub sR) <| AK 15 rfl rfl (bR (c := true) h40) (hH37.sub sR) <| AK 16 rfl rfl (bR (c := true) h40) (hH37.sub sR) <| AK 17 rfl rfl (bR (c := true) h40) (hH37.sub sR) <| AK 18 rfl rfl (bR (c := true) h40) (hH37.sub sR) <| AK 19 rfl rfl (bR (c := true) h40) (hH37.sub sR) <| AG 20 rfl rfl (bT h35) (hH37.sub sR) (fun w hS => run_pickT (bR (c := true) h40) (v := B true) rfl) <| have zh37 := hH37.sub sR; AQ 21 rfl zh37 (run_pickT (bT h35) (v := B _) rfl) <| AD <| CW.condT rfl <| SR <| va (v := B false) rfl <| RL.nil <| CW.ret <| outP1 Tryz.results10 (congrArg B ?_) hH37.below
          (exfalso; omega)
         ·refine AG 13 rfl rfl (bR (c := false) h40) (hH37.sub sR) (fun w hS => fA underlying29 1 rfl sizeOf27 e3_11) <| AG 14 rfl rfl (bR (c := false) h40) (hH37.sub sR) (fun w hS => run_ldV (ha.rows.sl.hp hS) underlying27 rfl rfl (hS.cell (i := 2) rfl rfl)) <| AG 15 rfl rfl (bR (c := false) h40) (hH37.sub sR) (fun w hS => run_move e5_11) <| AG 16 rfl rfl (bR (c := false) h40) (hH37.sub sR) (fun w hS => run_indexAddrS (ha.rows.sl.hp hS) underlying27 sizeOf48 rfl rfl (by omega)) <| AG 17 rfl rfl (bR (c := false) h40) (hH37.sub sR) (fun w hS => run_ld underlying48 rfl rfl ((ha.rows.sl.hp hS).cell _ _ (rowsC_at (by omega)))) <| AG 18 rfl rfl (bR (c := false) h40) (hH37.sub sR) (fun w hS => run_lenSl ((ha.at (by omega) (by omega)).sl.hp hS) rfl underlying48 rfl) <| AG 19 rfl rfl (bR (c := false) h40) (hH37.sub sR) (fun w hS => run_gtr rfl rfl) <| AG 20 rfl rfl (bT h35) (hH37.sub sR) (fun w hS => run_pickF (bR (c := false) h40) (v := B _) rfl) <| have zh37b := hH37.sub sR; AQ 21 rfl zh37b (run_pickT (bT h35) (v := B _) rfl) <| AD <| CW.condP rfl (fun h42 => ?_) (fun h42 => ?_)
          ·refine SR <| va (v := B false) rfl <| RL.nil <| CW.ret <| outP1 Tryz.results10 (congrArg B ?_) hH37.below
           (exfalso; omega)
          ·refine CW.skip <| CW.seq <| SR <| V (fA underlying47 1 rfl sizeOf3 rfl) <| V (run_ld underlying3 rfl rfl (hH37.cell (i := 1) rfl (v := I _) rfl)) <| V (run_eql rfl rfl) <| mB rfl <| RL.splitP (dj := 90) rfl (fun h44 => ?_) (fun h44 => ?_)
           ·refine gT rfl (bT h44) <| V (fA underlying29 0 rfl sizeOf26 e3_11) <| gT rfl (bT h44) <| V (run_ldV (ha.labels.sl.hp hH37) underlying26 rfl rfl (hH37.cell (i := 2) rfl rfl)) <| gT rfl (bT h44) <| vm e5_11 <| gT rfl (bT h44) <| V (run_indexAddrS (ha.labels.sl.hp hH37) underlying26 sizeOf51 rfl rfl (by omega)) <| gT rfl (bT h44) <| V (run_ldElS (ha.labels.sl.hp hH37) underlying51 rfl rfl rfl (by omega)) <| gT rfl (bT h44) <| V (run_bld (vs := []) rfl (built_el0)) <| gT rfl (bT h44) <| V (run_neqEl elT_fact rfl rfl) <| gT rfl (bT h44) <| mB rfl <| RL.split (dj := 98) rfl (fun h46 => ?_) (fun h46 => ?_)
            ·refine gF rfl (bR (c := true) h46) <| gF rfl (bR (c := true) h46) <| gF rfl (bR (c := true) h46) <| gF rfl (bR (c := true) h46) <| gF rfl (bR (c := true) h46) <| gF rfl (bR (c := true) h46) <| gF rfl (bR (c := true) h46) <| gT rfl (bT h44) <| V (run_pickT (bR (c := true) h46) (v := B true) rfl) <| V (run_pickT (bT h44) (v := B _) rfl) <| RL.nil <| CW.condT rfl <| SR <| va (v := B false) rfl <| RL.nil <| CW.ret <| outP1 Tryz.results10 (congrArg B ?_) hH37.below
             (exfalso; omega)
            ·refine gT rfl (bR (c := false) h46) <| V (fA underlying29 1 rfl sizeOf27 e3_11) <| gT rfl (bR (c := false) h46) <| V (run_ldV (ha.rows.sl.hp hH37) underlying27 rfl rfl (hH37.cell (i := 2) rfl rfl)) <| gT rfl (bR (c := false) h46) <| vm e5_11 <| gT rfl (bR (c := false) h46) <| V (run_indexAddrS (ha.rows.sl.hp hH37) underlying27 sizeOf48 rfl rfl (by omega)) <| gT rfl (bR (c := false) h46) <| V (run_ld underlying48 rfl rfl ((ha.rows.sl.hp hH37).cell _ _ (rowsC_at (by omega)))) <| gT rfl (bR (c := false) h46) <| RL.callP rfl hH37 (c_clearanceref18_ordered _ _  _ ((ha.at (by omega) (by omega)).sl.hp hH37)) (run_call1 call28 rfl) <| fun w47 hH48 => gT rfl (bR (c := false) h46) <| V (run_not rfl) <| gT rfl (bT h44) <| V (run_pickF (bR (c := false) h46) (v := B _) rfl) <| V (run_pickT (bT h44) (v := B _) rfl) <| RL.nil <| CW.cond rfl (fun h51 => ?_) (fun h51 => ?_)
             ·refine SR <| va (v := B false) rfl <| RL.nil <| CW.ret <| outP1 Tryz.results10 (congrArg B ?_) hH48.below
              (exfalso; omega)
             ·refine CW.skip <| SR <| va (v := I 0) rfl <| RL.nil <| CW.block <| have hm5 := (ha.at h0 (by omega)).small; ?_
              unfold maxLen at hm5
              refine CW.loop (G := Int) (fun q s' w' => (Fr (4 :: (8 :: (rg 108 22 []))) _ s') ∧ (Hp w w' _) ∧ (s' 8 = I q) ∧ (0 ≤ q) ∧ (q ≤ (a.rows.getD k.toNat vr0).l.length) ∧ (∀ i : Int, 0 ≤ i → i < q → fitsS (shG s (s.vars.getD k.toNat var0)) ((a.rows.getD k.toNat vr0).l.getD i.toNat val0).el = true)) (fun q => ((a.rows.getD k.toNat vr0).l.length - q).toNat) (0) ⟨Fr.refl _ _, hH48, rfl, (by omega), (by omega), fun j a b => absurd b (by omega)⟩ ?_
              rintro q sg52 w52 ⟨fr52, hH52, e8_52, q0, qk, hq⟩
              have e3_52 := (fr52 3 rfl).trans e3_11
              have e5_52 := (fr52 5 rfl).trans e5_11
              have e7_52 := fr52.pp 7 rfl rfl
              refine CW.seq <| SR <| vm e8_52 <| V (fA underlying29 1 rfl sizeOf27 e3_52) <| V (run_ldV (ha.rows.sl.hp hH52) underlying27 rfl rfl (hH52.cell (i := 2) rfl rfl)) <| vm e5_52 <| V (run_indexAddrS (ha.rows.sl.hp hH52) underlying27 sizeOf48 rfl rfl (by omega)) <| V (run_ld underlying48 rfl rfl ((ha.rows.sl.hp hH52).cell _ _ (rowsC_at (by omega)))) <| V (run_lenSl ((ha.at (by omega) (by omega)).sl.hp hH52) rfl underlying48 rfl) <| V (run_lss rfl rfl) <| RL.nil <| CW.condP rfl (fun h54 => ?_) (fun h54 => ?_)
              ·refine CW.skip <| CW.seq <| CW.block <| CW.seq <| CW.regionD (by kernel_rfl) hH52 <| fun w55 hH56 => have zh56 := hH56.sub sR; AT 0 rfl zh56 (fun w hS => run_ldA (cs := [B _, _]) underlying42 rfl rfl e7_52 (rangeAt_cells (hS.blk (i := 0) rfl))) <| AQ 1 rfl zh56 (fA underlying29 1 rfl sizeOf27 e3_52) <| AT 2 rfl zh56 (fun w hS => run_ldV (ha.rows.sl.hp hS) underlying27 rfl rfl (hS.cell (i := 2) rfl rfl)) <| AQ 3 rfl zh56 (run_move e5_52) <| AT 4 rfl zh56 (fun w hS => run_indexAddrS (ha.rows.sl.hp hS) underlying27 sizeOf48 rfl rfl (by omega)) <| AT 5 rfl zh56 (fun w hS => run_ld underlying48 rfl rfl ((ha.rows.sl.hp hS).cell _ _ (rowsC_at (by omega)))) <| AQ 6 rfl zh56 (run_move e8_52) <| AT 7 rfl zh56 (fun w hS => run_indexAddrS ((ha.at (by omega) (by omega)).sl.hp hS) underlying48 sizeOf53 rfl rfl (by omega)) <| AQ 8 rfl zh56 (fA underlying53 1 rfl sizeOf51 rfl) <| AT 9 rfl zh56 (fun w hS => run_ldVE ((ha.at (by omega) (by omega)).sl.hp hS) underlying51 rfl rfl rfl (by omega)) <| A1 10 <| AO.callP rfl gnone rfl hH56 sR (c_clearanceref07_Fits _ _  _ ((hs.at (by omega) (by omega)).mono hH56.kw)) (run_call2 call27 rfl rfl) <| fun w57 hH58 => AQ 11 rfl (hH58.sub sR) (run_not rfl) <| AD <| CW.cond rfl (fun h61 => ?_) (fun h61 => ?_)
               ·refine SR <| va (v := B false) rfl <| RL.nil <| CW.ret <| outP1 Tryz.results10 (congrArg B ?_) hH58.below
                (exfalso; omega)
               ·refine CW.skip <| CW.region <| vm e8_52 <| V (run_add rfl rfl (by omega)) <| aI rfl <| RL.nil <| ?_
                refine ⟨q + 1, ?_, fr52.u4.u4.u4.u4.u4.u1.u1.u1, hH58, (congrArg I (by rfl)), ?_, ?_, ?_⟩
                ·((try dsimp only); omega)
                ·omega
                ·omega
                ·exact fun i u v => if e : i = q then e ▸ nf ‹(!fitsS _ (ValR.el _)) = false› else hq i u (by omega)
              ·refine CW.exit (id := 2) rfl <| CW.region <| vm e5_52 <| V (run_add rfl rfl (by omega)) <| aI rfl <| RL.nil <| ?_
               refine ⟨k + 1, ?_, (((fr11.u4.u4.u4.u4.u4.u4.u4.u4.u4.u4.u4.u4.u4.u4.u4.u4.u4.u4.u4.u4.u4).t fr52 rfl)).u4.u4.u1.u1.u1, (hH52.sub (sQ (sQ sR))), (congrArg I (by rfl)), ?_, ?_, ?_⟩
               ·((try dsimp only); omega)
               ·omega
               ·omega
               ·exact fun i u v => if e : i = k then e ▸ (by exfalso; omega) else hg i u (by omega)
           ·refine gF rfl (bF h44) <| gF rfl (bF h44) <| gF rfl (bF h44) <| gF rfl (bF h44) <| gF rfl (bF h44) <| gF rfl (bF h44) <| gF rfl (bF h44) <| gF rfl (bF h44) <| RL.gU rfl rfl rfl <| RL.gU rfl rfl rfl <| RL.gU rfl rfl rfl <| RL.gU rfl rfl rfl <| RL.gU rfl rfl rfl <| RL.gU rfl rfl rfl <| RL.gU rfl rfl rfl <| gF rfl (bF h44) <| V (run_pickF (bF h44) (v := B false) rfl) <| RL.nil <| CW.condF rfl <| CW.skip <| SR <| va (v := I 0) rfl <| RL.nil <| CW.block <| have hm5 := (ha.at h0 (by omega)).small; ?_
            unfold maxLen at hm5
            refine CW.loop (G := Int) (fun q s' w' => (Fr (4 :: (8 :: (rg 108 22 []))) _ s') ∧ (Hp w w' _) ∧ (s' 8 = I q) ∧ (0 ≤ q) ∧ (q ≤ (a.rows.getD k.toNat vr0).l.length) ∧ (∀ i : Int, 0 ≤ i → i < q → fitsS (shG s (s.vars.getD k.toNat var0)) ((a.rows.getD k.toNat vr0).l.getD i.toNat val0).el = true)) (fun q => ((a.rows.getD k.toNat vr0).l.length - q).toNat) (0) ⟨Fr.refl _ _, hH37, rfl, (by omega), (by omega), fun j a b => absurd b (by omega)⟩ ?_
            rintro q sg62 w62 ⟨fr62, hH62, e8_62, q0, qk, hq⟩
            have e3_62 := (fr62 3 rfl).trans e3_11
            have e5_62 := (fr62 5 rfl).trans e5_11
            have e7_62 := fr62.pp 7 rfl rfl
            refine CW.seq <| SR <| vm e8_62 <| V (fA underlying29 1 rfl sizeOf27 e3_62) <| V (run_ldV (ha.rows.sl.hp hH62) underlying27 rfl rfl (hH62.cell (i := 2) rfl rfl)) <| vm e5_62 <| V (run_indexAddrS (ha.rows.sl.hp hH62) underlying27 sizeOf48 rfl rfl (by omega)) <| V (run_ld underlying48 rfl rfl ((ha.rows.sl.hp hH62).cell _ _ (rowsC_at (by omega)))) <| V (run_lenSl ((ha.at (by omega) (by omega)).sl.hp hH62) rfl underlying48 rfl) <| V (run_lss rfl rfl) <| RL.nil <| CW.condP rfl (fun h64 => ?_) (fun h64 => ?_)
            ·refine CW.skip <| CW.seq <| CW.block <| CW.seq <| CW.regionD (by kernel_rfl) hH62 <| fun w65 hH66 => have zh66 := hH66.sub sR; AT 0 rfl zh66 (fun w hS => run_ldA (cs := [B _, _]) underlying42 rfl rfl e7_62 (rangeAt_cells (hS.blk (i := 0) rfl))) <| AQ 1 rfl zh66 (fA underlying29 1 rfl sizeOf27 e3_62) <| AT 2 rfl zh66 (fun w hS => run_ldV (ha.rows.sl.hp hS) underlying27 rfl rfl (hS.cell (i := 2) rfl rfl)) <| AQ 3 rfl zh66 (run_move e5_62) <| AT 4 rfl zh66 (fun w hS => run_indexAddrS (ha.rows.sl.hp hS) underlying27 sizeOf48 rfl rfl (by omega)) <| AT 5 rfl zh66 (fun w hS => run_ld underlying48 rfl rfl ((ha.rows.sl.hp hS).cell _ _ (rowsC_at (by omega)))) <| AQ 6 rfl zh66 (run_move e8_62) <| AT 7 rfl zh66 (fun w hS => run_indexAddrS ((ha.at (by omega) (by omega)).sl.hp hS) underlying48 sizeOf53 rfl rfl (by omega)) <| AQ 8 rfl zh66 (fA underlying53 1 rfl sizeOf51 rfl) <| AT 9 rfl zh66 (fun w hS => run_ldVE ((ha.at (by omega) (by omega)).sl.hp hS) underlying51 rfl rfl rfl (by omega)) <| A1 10 <| AO.callP rfl gnone rfl hH66 sR (c_clearanceref07_Fits _ _  _ ((hs.at (by omega) (by omega)).mono hH66.kw)) (run_call2 call27 rfl rfl) <| fun w67 hH68 => AQ 11 rfl (hH68.sub sR) (run_not rfl) <| AD <| CW.cond rfl (fun h71 => ?_) (fun h71 => ?_)
             ·refine SR <| va (v := B false) rfl <| RL.nil <| CW.ret <| outP1 Tryz.results10 (congrArg B ?_) hH68.below
              (exfalso; omega)
             ·refine CW.skip <| CW.region <| vm e8_62 <| V (run_add rfl rfl (by omega)) <| aI rfl <| RL.nil <| ?_
              refine ⟨q + 1, ?_, fr62.u4.u4.u4.u4.u4.u1.u1.u1, hH68, (congrArg I (by rfl)), ?_, ?_, ?_⟩
              ·((try dsimp only); omega)
              ·omega
              ·omega
              ·exact fun i u v => if e : i = q then e ▸ nf ‹(!fitsS _ (ValR.el _)) = false› else hq i u (by omega)
            ·refine CW.exit (id := 2) rfl <| CW.region <| vm e5_62 <| V (run_add rfl rfl (by omega)) <| aI rfl <| RL.nil <| ?_
             refine ⟨k + 1, ?_, (((fr11.u4.u4.u4.u4.u4.u4.u4.u4.u4.u4.u4.u4.u4.u4.u4.u4.u4.u4.u4.u4.u4).t fr62 rfl)).u4.u4.u1.u1.u1, (hH62.sub (sQ (sQ sR))), (congrArg I (by rfl)), ?_, ?_, ?_⟩
             ·((try dsimp only); omega)
             ·omega
             ·omega
             ·exact fun i u v => if e : i = k then e ▸ (by exfalso; omega) else hg i u (by omega)
        ·refine AK 4 rfl rfl (bF h35) (hH33.sub sR) <| AK 5 rfl rfl (bF h35) (hH33.sub sR) <| AK 6 rfl rfl (bF h35) (hH33.sub sR) <| AK 7 rfl rfl (bF h35) (hH33.sub sR) <| AK 8 rfl rfl (bF h35) (hH33.sub sR) <| AK 9 rfl rfl (bF h35) (hH33.sub sR) <| AK 10 rfl rfl (bF h35) (hH33.sub sR) <| AK 11 rfl rfl (bF h35) (hH33.sub sR) <| AK 12 rfl rfl (bF h35) (hH33.sub sR) <| AU 13 rfl rfl rfl (hH33.sub sR) <| AU 14 rfl rfl rfl (hH33.sub sR) <| AU 15 rfl rfl rfl (hH33.sub sR) <| AU 16 rfl rfl rfl (hH33.sub sR) <| AU 17 rfl rfl rfl (hH33.sub sR) <| AU 18 rfl rfl rfl (hH33.sub sR) <| AU 19 rfl rfl rfl (hH33.sub sR) <| AK 20 rfl rfl (bF h35) (hH33.sub sR) <| AQ 21 rfl zh33 (run_pickF (bF h35) (v := B false) rfl) <| AD <| CW.condF rfl <| CW.skip <| CW.seq <| SR <| V (fA underlying47 1 rfl sizeOf3 rfl) <| V (run_ld underlying3 rfl rfl (hH33.cell (i := 1) rfl (v := I _) rfl)) <| V (run_eql rfl rfl) <| mB rfl <| RL.splitP (dj := 90) rfl (fun h73 => ?_) (fun h73 => ?_)
         ·refine gT rfl (bT h73) <| V (fA underlying29 0 rfl sizeOf26 e3_11) <| gT rfl (bT h73) <| V (run_ldV (ha.labels.sl.hp hH33) underlying26 rfl rfl (hH33.cell (i := 2) rfl rfl)) <| gT rfl (bT h73) <| vm e5_11 <| gT rfl (bT h73) <| V (run_indexAddrS (ha.labels.sl.hp hH33) underlying26 sizeOf51 rfl rfl (by omega)) <| gT rfl (bT h73) <| V (run_ldElS (ha.labels.sl.hp hH33) underlying51 rfl rfl rfl (by omega)) <| gT rfl (bT h73) <| V (run_bld (vs := []) rfl (built_el0)) <| gT rfl (bT h73) <| V (run_neqEl elT_fact rfl rfl) <| gT rfl (bT h73) <| mB rfl <| RL.split (dj := 98) rfl (fun h75 => ?_) (fun h75 => ?_)
          ·refine gF rfl (bR (c := true) h75) <| gF rfl (bR (c := true) h75) <| gF rfl (bR (c := true) h75) <| gF rfl (bR (c := true) h75) <| gF rfl (bR (c := true) h75) <| gF rfl (bR (c := true) h75) <| gF rfl (bR (c := true) h75) <| gT rfl (bT h73) <| V (run_pickT (bR (c := true) h75) (v := B true) rfl) <| V (run_pickT (bT h73) (v := B _) rfl) <| RL.nil <| CW.condT rfl <| SR <| va (v := B false) rfl <| RL.nil <| CW.ret <| outP1 Tryz.results10 (congrArg B ?_) hH33.below
           exact (right_3 h0 ‹k < _› (ok_2a (by omega) (nt ‹(!decide (eqE _ _)) = true›))).symm
          ·refine gT rfl (bR (c := false) h75) <| V (fA underlying29 1 rfl sizeOf27 e3_11) <| gT rfl (bR (c := false) h75) <| V (run_ldV (ha.rows.sl.hp hH33) underlying27 rfl rfl (hH33.cell (i := 2) rfl rfl)) <| gT rfl (bR (c := false) h75) <| vm e5_11 <| gT rfl (bR (c := false) h75) <| V (run_indexAddrS (ha.rows.sl.hp hH33) underlying27 sizeOf48 rfl rfl (by omega)) <| gT rfl (bR (c := false) h75) <| V (run_ld underlying48 rfl rfl ((ha.rows.sl.hp hH33).cell _ _ (rowsC_at (by omega)))) <| gT rfl (bR (c := false) h75) <| RL.callP rfl hH33 (c_clearanceref18_ordered _ _  _ ((ha.at (by omega) (by omega)).sl.hp hH33)) (run_call1 call28 rfl) <| fun w76 hH77 => gT rfl (bR (c := false) h75) <| V (run_not rfl) <| gT rfl (bT h73) <| V (run_pickF (bR (c := false) h75) (v := B _) rfl) <| V (run_pickT (bT h73) (v := B _) rfl) <| RL.nil <| CW.cond rfl (fun h80 => ?_) (fun h80 => ?_)
           ·refine SR <| va (v := B false) rfl <| RL.nil <| CW.ret <| outP1 Tryz.results10 (congrArg B ?_) hH77.below
            exact (right_3 h0 ‹k < _› (ok_2b (by omega) (nt ‹(!orderedF _) = true›))).symm
           ·refine CW.skip <| SR <| va (v := I 0) rfl <| RL.nil <| CW.block <| have hm5 := (ha.at h0 (by omega)).small; ?_
            unfold maxLen at hm5
            refine CW.loop (G := Int) (fun q s' w' => (Fr (4 :: (8 :: (rg 108 22 []))) _ s') ∧ (Hp w w' _) ∧ (s' 8 = I q) ∧ (0 ≤ q) ∧ (q ≤ (a.rows.getD k.toNat vr0).l.length) ∧ (∀ i : Int, 0 ≤ i → i < q → fitsS (shG s (s.vars.getD k.toNat var0)) ((a.rows.getD k.toNat vr0).l.getD i.toNat val0).el = true)) (fun q => ((a.rows.getD k.toNat vr0).l.length - q).toNat) (0) ⟨Fr.refl _ _, hH77, rfl, (by omega), (by omega), fun j a b => absurd b (by omega)⟩ ?_
            rintro q sg81 w81 ⟨fr81, hH81, e8_81, q0, qk, hq⟩
            have e3_81 := (fr81 3 rfl).trans e3_11
            have e5_81 := (fr81 5 rfl).trans e5_11
            have e7_81 := fr81.pp 7 rfl rfl
            refine CW.seq <| SR <| vm e8_81 <| V (fA underlying29 1 rfl sizeOf27 e3_81) <| V (run_ldV (ha.rows.sl.hp hH81) underlying27 rfl rfl (hH81.cell (i := 2) rfl rfl)) <| vm e5_81 <| V (run_indexAddrS (ha.rows.sl.hp hH81) underlying27 sizeOf48 rfl rfl (by omega)) <| V (run_ld underlying48 rfl rfl ((ha.rows.sl.hp hH81).cell _ _ (rowsC_at (by omega)))) <| V (run_lenSl ((ha.at (by omega) (by omega)).sl.hp hH81) rfl underlying48 rfl) <| V (run_lss rfl rfl) <| RL.nil <| CW.condP rfl (fun h83 => ?_) (fun h83 => ?_)
            ·refine CW.skip <| CW.seq <| CW.block <| CW.seq <| CW.regionD (by kernel_rfl) hH81 <| fun w84 hH85 => have zh85 := hH85.sub sR; AT 0 rfl zh85 (fun w hS => run_ldA (cs := [B _, _]) underlying42 rfl rfl e7_81 (rangeAt_cells (hS.blk (i := 0) rfl))) <| AQ 1 rfl zh85 (fA underlying29 1 rfl sizeOf27 e3_81) <| AT 2 rfl zh85 (fun w hS => run_ldV (ha.rows.sl.hp hS) underlying27 rfl rfl (hS.cell (i := 2) rfl rfl)) <| AQ 3 rfl zh85 (run_move e5_81) <| AT 4 rfl zh85 (fun w hS => run_indexAddrS (ha.rows.sl.hp hS) underlying27 sizeOf48 rfl rfl (by omega)) <| AT 5 rfl zh85 (fun w hS => run_ld underlying48 rfl rfl ((ha.rows.sl.hp hS).cell _ _ (rowsC_at (by omega)))) <| AQ 6 rfl zh85 (run_move e8_81) <| AT 7 rfl zh85 (fun w hS => run_indexAddrS ((ha.at (by omega) (by omega)).sl.hp hS) underlying48 sizeOf53 rfl rfl (by omega)) <| AQ 8 rfl zh85 (fA underlying53 1 rfl sizeOf51 rfl) <| AT 9 rfl zh85 (fun w hS => run_ldVE ((ha.at (by omega) (by omega)).sl.hp hS) underlying51 rfl rfl rfl (by omega)) <| A1 10 <| AO.callP rfl gnone rfl hH85 sR (c_clearanceref07_Fits _ _  _ ((hs.at (by omega) (by omega)).mono hH85.kw)) (run_call2 call27 rfl rfl) <| fun w86 hH87 => AQ 11 rfl (hH87.sub sR) (run_not rfl) <| AD <| CW.cond rfl (fun h90 => ?_) (fun h90 => ?_)
             ·refine SR <| va (v := B false) rfl <| RL.nil <| CW.ret <| outP1 Tryz.results10 (congrArg B ?_) hH87.below
              exact (right_3 h0 ‹k < _› (ok_2c (by omega) (fits_no q0 ‹q < _› (nt ‹(!fitsS _ (ValR.el _)) = true›)))).symm
             ·refine CW.skip <| CW.region <| vm e8_81 <| V (run_add rfl rfl (by omega)) <| aI rfl <| RL.nil <| ?_
              refine ⟨q + 1, ?_, fr81.u4.u4.u4.u4.u4.u1.u1.u1, hH87, (congrArg I (by rfl)), ?_, ?_, ?_⟩
              ·((try dsimp only); omega)
              ·omega
              ·omega
              ·exact fun i u v => if e : i = q then e ▸ nf ‹(!fitsS _ (ValR.el _)) = false› else hq i u (by omega)
            ·refine CW.exit (id := 2) rfl <| CW.region <| vm e5_81 <| V (run_add rfl rfl (by omega)) <| aI rfl <| RL.nil <| ?_
             refine ⟨k + 1, ?_, (((fr11.u4.u4.u4.u4.u4.u4.u4.u4.u4.u4.u4.u4.u4.u4.u4.u4.u4.u4.u4.u4.u4).t fr81 rfl)).u4.u4.u1.u1.u1, (hH81.sub (sQ (sQ sR))), (congrArg I (by rfl)), ?_, ?_, ?_⟩
             ·((try dsimp only); omega)
             ·omega
             ·omega
             ·exact fun i u v => if e : i = k then e ▸ (by exact ok_y2 ⟨by omega, by omega⟩ (by omega) (nf ‹(!decide (eqE _ _)) = false›) (nf ‹(!orderedF _) = false›) (fits_all ‹¬ q < _› hq)) else hg i u (by omega)
         ·refine gF rfl (bF h73) <| gF rfl (bF h73) <| gF rfl (bF h73) <| gF rfl (bF h73) <| gF rfl (bF h73) <| gF rfl (bF h73) <| gF rfl (bF h73) <| gF rfl (bF h73) <| RL.gU rfl rfl rfl <| RL.gU rfl rfl rfl <| RL.gU rfl rfl rfl <| RL.gU rfl rfl rfl <| RL.gU rfl rfl rfl <| RL.gU rfl rfl rfl <| RL.gU rfl rfl rfl <| gF rfl (bF h73) <| V (run_pickF (bF h73) (v := B false) rfl) <| RL.nil <| CW.condF rfl <| CW.skip <| SR <| va (v := I 0) rfl <| RL.nil <| CW.block <| have hm5 := (ha.at h0 (by omega)).small; ?_
          unfold maxLen at hm5
          refine CW.loop (G := Int) (fun q s' w' => (Fr (4 :: (8 :: (rg 108 22 []))) _ s') ∧ (Hp w w' _) ∧ (s' 8 = I q) ∧ (0 ≤ q) ∧ (q ≤ (a.rows.getD k.toNat vr0).l.length) ∧ (∀ i : Int, 0 ≤ i → i < q → fitsS (shG s (s.vars.getD k.toNat var0)) ((a.rows.getD k.toNat vr0).l.getD i.toNat val0).el = true)) (fun q => ((a.rows.getD k.toNat vr0).l.length - q).toNat) (0) ⟨Fr.refl _ _, hH33, rfl, (by omega), (by omega), fun j a b => absurd b (by omega)⟩ ?_
          rintro q sg91 w91 ⟨fr91, hH91, e8_91, q0, qk, hq⟩
          have e3_91 := (fr91 3 rfl).trans e3_11
          have e5_91 := (fr91 5 rfl).trans e5_11
          have e7_91 := fr91.pp 7 rfl rfl
          refine CW.seq <| SR <| vm e8_91 <| V (fA underlying29 1 rfl sizeOf27 e3_91) <| V (run_ldV (ha.rows.sl.hp hH91) underlying27 rfl rfl (hH91.cell (i := 2) rfl rfl)) <| vm e5_91 <| V (run_indexAddrS (ha.rows.sl.hp hH91) underlying27 sizeOf48 rfl rfl (by omega)) <| V (run_ld underlying48 rfl rfl ((ha.rows.sl.hp hH91).cell _ _ (rowsC_at (by omega)))) <| V (run_lenSl ((ha.at (by omega) (by omega)).sl.hp hH91) rfl underlying48 rfl) <| V (run_lss rfl rfl) <| RL.nil <| CW.condP rfl (fun h93 => ?_) (fun h93 => ?_)
          ·refine CW.skip <| CW.seq <| CW.block <| CW.seq <| CW.regionD (by kernel_rfl) hH91 <| fun w94 hH95 => have zh95 := hH95.sub sR; AT 0 rfl zh95 (fun w hS => run_ldA (cs := [B _, _]) underlying42 rfl rfl e7_91 (rangeAt_cells (hS.blk (i := 0) rfl))) <| AQ 1 rfl zh95 (fA underlying29 1 rfl sizeOf27 e3_91) <| AT 2 rfl zh95 (fun w hS => run_ldV (ha.rows.sl.hp hS) underlying27 rfl rfl (hS.cell (i := 2) rfl rfl)) <| AQ 3 rfl zh95 (run_move e5_91) <| AT 4 rfl zh95 (fun w hS => run_indexAddrS (ha.rows.sl.hp hS) underlying27 sizeOf48 rfl rfl (by omega)) <| AT 5 rfl zh95 (fun w hS => run_ld underlying48 rfl rfl ((ha.rows.sl.hp hS).cell _ _ (rowsC_at (by omega)))) <| AQ 6 rfl zh95 (run_move e8_91) <| AT 7 rfl zh95 (fun w hS => run_indexAddrS ((ha.at (by omega) (by omega)).sl.hp hS) underlying48 sizeOf53 rfl rfl (by omega)) <| AQ 8 rfl zh95 (fA underlying53 1 rfl sizeOf51 rfl) <| AT 9 rfl zh95 (fun w hS => run_ldVE ((ha.at (by omega) (by omega)).sl.hp hS) underlying51 rfl rfl rfl (by omega)) <| A1 10 <| AO.callP rfl gnone rfl hH95 sR (c_clearanceref07_Fits _ _  _ ((hs.at (by omega) (by omega)).mono hH95.kw)) (run_call2 call27 rfl rfl) <| fun w96 hH97 => AQ 11 rfl (hH97.sub sR) (run_not rfl) <| AD <| CW.cond rfl (fun h100 => ?_) (fun h100 => ?_)
           ·refine SR <| va (v := B false) rfl <| RL.nil <| CW.ret <| outP1 Tryz.results10 (congrArg B ?_) hH97.below
            (exfalso; omega)
           ·refine CW.skip <| CW.region <| vm e8_91 <| V (run_add rfl rfl (by omega)) <| aI rfl <| RL.nil <| ?_
            refine ⟨q + 1, ?_, fr91.u4.u4.u4.u4.u4.u1.u1.u1, hH97, (congrArg I (by rfl)), ?_, ?_, ?_⟩
            ·((try dsimp only); omega)
            ·omega
            ·omega
            ·exact fun i u v => if e : i = q then e ▸ nf ‹(!fitsS _ (ValR.el _)) = false› else hq i u (by omega)
          ·refine CW.exit (id := 2) rfl <| CW.region <| vm e5_91 <| V (run_add rfl rfl (by omega)) <| aI rfl <| RL.nil <| ?_
           refine ⟨k + 1, ?_, (((fr11.u4.u4.u4.u4.u4.u4.u4.u4.u4.u4.u4.u4.u4.u4.u4.u4.u4.u4.u4.u4.u4).t fr91 rfl)).u4.u4.u1.u1.u1, (hH91.sub (sQ (sQ sR))), (congrArg I (by rfl)), ?_, ?_, ?_⟩
           ·((try dsimp only); omega)
           ·omega
           ·omega
           ·exact fun i u v => if e : i = k then e ▸ (by exfalso; omega) else hg i u (by omega)
      ·refine gF rfl (bF h24) <| gF rfl (bF h24) <| gF rfl (bF h24) <| gT rfl (bF h22) <| V (run_pickF (bF h24) (v := B false) rfl) <| V (run_pickF (bF h22) (v := B _) rfl) <| RL.nil <| CW.condF rfl <| CW.skip <| SR <| V (fA underlying25 0 rfl sizeOf22 e2_11) <| V (run_ldV (hs.lats.sl.hp hH18) underlying22 rfl rfl (hH18.cell (i := 2) rfl rfl)) <| V (fA underlying47 2 rfl sizeOf3 rfl) <| V (run_ld underlying3 rfl rfl (hH18.cell (i := 0) rfl (v := I _) rfl)) <| V (run_indexAddrS (hs.lats.sl.hp hH18) underlying22 sizeOf44 rfl rfl (by omega)) <| V (fA underlying44 1 rfl sizeOf42 rfl) <| V (run_ldEA (dv := lat0) (off := 1) (cs := shpL _) latL_len (hs.lats.sl.hp hH18) underlying42 rfl rfl rfl (by omega) (lat_shp _)) <| RL.new rfl hH18 (f := fun b => (.pointer (some ⟨b, 0, none⟩))) (run_alloc Tryz.zeroValue42) <| fun b103 w101 hH102 => RL.set hH102 (i := 0) rfl (run_stShp (hs.at (by omega) (by omega)) rfl rfl rfl (hH102.blk (i := 0) rfl) rfl) <| fun w104 hH105 => ?_
       simp only [z2] at hH105
       refine RL.nil <| CW.seq <| CW.seq <| CW.regionD (by kernel_rfl) hH105 <| fun w106 hH107 => have zh107 := hH107.sub sR; AQ 0 rfl zh107 (fA underlying47 1 rfl sizeOf3 rfl) <| AT 1 rfl zh107 (fun w hS => run_ld underlying3 rfl rfl (hS.cell (i := 1) rfl (v := I _) rfl)) <| AQ 2 rfl zh107 (run_eql rfl rfl) <| AQ 3 rfl zh107 (mV (B _) rfl) <| AN.splitP (dj := 68) rfl (fun h109 => ?_) (fun h109 => ?_)
       ·refine AG 4 rfl rfl (bT h109) (hH107.sub sR) (fun w hS => run_ldA (cs := [B _, _]) underlying42 rfl rfl rfl (rangeAt_cells (hS.blk (i := 0) rfl))) <| AG 5 rfl rfl (bT h109) (hH107.sub sR) (fun w hS => fA underlying29 0 rfl sizeOf26 e3_11) <| AG 6 rfl rfl (bT h109) (hH107.sub sR) (fun w hS => run_ldV (ha.labels.sl.hp hS) underlying26 rfl rfl (hS.cell (i := 2) rfl rfl)) <| AG 7 rfl rfl (bT h109) (hH107.sub sR) (fun w hS => run_move e5_11) <| AG 8 rfl rfl (bT h109) (hH107.sub sR) (fun w hS => run_indexAddrS (ha.labels.sl.hp hS) underlying26 sizeOf51 rfl rfl (by omega)) <| AG 9 rfl rfl (bT h109) (hH107.sub sR) (fun w hS => run_ldElS (ha.labels.sl.hp hS) underlying51 rfl rfl rfl (by omega)) <| A1 10 <| AO.callP rfl (gsome rfl (bT h109)) rfl hH107 sR (c_clearanceref07_Fits _ _  _ ((hs.at (by omega) (by omega)).mono hH107.kw)) (run_call2 call27 rfl rfl) <| fun w110 hH111 => AG 11 rfl rfl (bT h109) (hH111.sub sR) (fun w hS => run_not rfl) <| AG 12 rfl rfl (bT h109) (hH111.sub sR) (fun w hS => mV (B _) rfl) <| AN.split (dj := 77) rfl (fun h114 => ?_) (fun h114 => ?_)
        ·refine AK 13 rfl rfl (bR (c := true) h114) (hH111.sub sR) <| AK 14 rfl rfl (bR (c := true) h114) (hH111.sub sR) <| AK 15 rfl rfl (bR (c := true) h114) (hH111.sub sR) <| AK 16 rfl rfl (bR (c := true) h114) (hH111.sub sR) <| AK 17 rfl rfl (bR (c := true) h114) (hH111.sub sR) <| AK 18 rfl rfl (bR (c := true) h114) (hH111.sub sR) <| AK 19 rfl rfl (bR (c := true) h114) (hH111.sub sR) <| AG 20 rfl rfl (bT h109) (hH111.sub sR) (fun w hS => run_pickT (bR (c := true) h114) (v := B true) rfl) <| have zh111 := hH111.sub sR; AQ 21 rfl zh111 (run_pickT (bT h109) (v := B _) rfl) <| AD <| CW.condT rfl <| SR <| va (v := B false) rfl <| RL.nil <| CW.ret <| outP1 Tryz.results10 (congrArg B ?_) hH111.below
         exact (right_3 h0 ‹k < _› (ok_1b (by omega) (nt ‹(!fitsS _ (List.getD a.labels _ _)) = true›))).symm
        ·refine AG 13 rfl rfl (bR (c := false) h114) (hH111.sub sR) (fun w hS => fA underlying29 1 rfl sizeOf27 e3_11) <| AG 14 rfl rfl (bR (c := false) h114) (hH111.sub sR) (fun w hS => run_ldV (ha.rows.sl.hp hS) underlying27 rfl rfl (hS.cell (i := 2) rfl rfl)) <| AG 15 rfl rfl (bR (c := false) h114) (hH111.sub sR) (fun w hS => run_move e5_11) <| AG 16 rfl rfl (bR (c := false) h114) (hH111.sub sR) (fun w hS => run_indexAddrS (ha.rows.sl.hp hS) underlying27 sizeOf48 rfl rfl (by omega)) <| AG 17 rfl rfl (bR (c := false) h114) (hH111.sub sR) (fun w hS => run_ld underlying48 rfl rfl ((ha.rows.sl.hp hS).cell _ _ (rowsC_at (by omega)))) <| AG 18 rfl rfl (bR (c := false) h114) (hH111.sub sR) (fun w hS => run_lenSl ((ha.at (by omega) (by omega)).sl.hp hS) rfl underlying48 rfl) <| AG 19 rfl rfl (bR (c := false) h114) (hH111.sub sR) (fun w hS => run_gtr rfl rfl) <| AG 20 rfl rfl (bT h109) (hH111.sub sR) (fun w hS => run_pickF (bR (c := false) h114) (v := B _) rfl) <| have zh111b := hH111.sub sR; AQ 21 rfl zh111b (run_pickT (bT h109) (v := B _) rfl) <| AD <| CW.condP rfl (fun h116 => ?_) (fun h116 => ?_)
         ·refine SR <| va (v := B false) rfl <| RL.nil <| CW.ret <| outP1 Tryz.results10 (congrArg B ?_) hH111.below
          exact (right_3 h0 ‹k < _› (ok_1a (by omega) (by omega))).symm
         ·refine CW.skip <| CW.seq <| SR <| V (fA underlying47 1 rfl sizeOf3 rfl) <| V (run_ld underlying3 rfl rfl (hH111.cell (i := 1) rfl (v := I _) rfl)) <| V (run_eql rfl rfl) <| mB rfl <| RL.splitP (dj := 90) rfl (fun h118 => ?_) (fun h118 => ?_)
          ·refine gT rfl (bT h118) <| V (fA underlying29 0 rfl sizeOf26 e3_11) <| gT rfl (bT h118) <| V (run_ldV (ha.labels.sl.hp hH111) underlying26 rfl rfl (hH111.cell (i := 2) rfl rfl)) <| gT rfl (bT h118) <| vm e5_11 <| gT rfl (bT h118) <| V (run_indexAddrS (ha.labels.sl.hp hH111) underlying26 sizeOf51 rfl rfl (by omega)) <| gT rfl (bT h118) <| V (run_ldElS (ha.labels.sl.hp hH111) underlying51 rfl rfl rfl (by omega)) <| gT rfl (bT h118) <| V (run_bld (vs := []) rfl (built_el0)) <| gT rfl (bT h118) <| V (run_neqEl elT_fact rfl rfl) <| gT rfl (bT h118) <| mB rfl <| RL.split (dj := 98) rfl (fun h120 => ?_) (fun h120 => ?_)
           ·refine gF rfl (bR (c := true) h120) <| gF rfl (bR (c := true) h120) <| gF rfl (bR (c := true) h120) <| gF rfl (bR (c := true) h120) <| gF rfl (bR (c := true) h120) <| gF rfl (bR (c := true) h120) <| gF rfl (bR (c := true) h120) <| gT rfl (bT h118) <| V (run_pickT (bR (c := true) h120) (v := B true) rfl) <| V (run_pickT (bT h118) (v := B _) rfl) <| RL.nil <| CW.condT rfl <| SR <| va (v := B false) rfl <| RL.nil <| CW.ret <| outP1 Tryz.results10 (congrArg B ?_) hH111.below
            (exfalso; omega)
           ·refine gT rfl (bR (c := false) h120) <| V (fA underlying29 1 rfl sizeOf27 e3_11) <| gT rfl (bR (c := false) h120) <| V (run_ldV (ha.rows.sl.hp hH111) underlying27 rfl rfl (hH111.cell (i := 2) rfl rfl)) <| gT rfl (bR (c := false) h120) <| vm e5_11 <| gT rfl (bR (c := false) h120) <| V (run_indexAddrS (ha.rows.sl.hp hH111) underlying27 sizeOf48 rfl rfl (by omega)) <| gT rfl (bR (c := false) h120) <| V (run_ld underlying48 rfl rfl ((ha.rows.sl.hp hH111).cell _ _ (rowsC_at (by omega)))) <| gT rfl (bR (c := false) h120) <| RL.callP rfl hH111 (c_clearanceref18_ordered _ _  _ ((ha.at (by omega) (by omega)).sl.hp hH111)) (run_call1 call28 rfl) <| fun w121 hH122 => gT rfl (bR (c := false) h120) <| V (run_not rfl) <| gT rfl (bT h118) <| V (run_pickF (bR (c := false) h120) (v := B _) rfl) <| V (run_pickT (bT h118) (v := B _) rfl) <| RL.nil <| CW.cond rfl (fun h125 => ?_) (fun h125 => ?_)
            ·refine SR <| va (v := B false) rfl <| RL.nil <| CW.ret <| outP1 Tryz.results10 (congrArg B ?_) hH122.below
             (exfalso; omega)
            ·refine CW.skip <| SR <| va (v := I 0) rfl <| RL.nil <| CW.block <| have hm5 := (ha.at h0 (by omega)).small; ?_
             unfold maxLen at hm5
             refine CW.loop (G := Int) (fun q s' w' => (Fr (4 :: (8 :: (rg 108 22 []))) _ s') ∧ (Hp w w' _) ∧ (s' 8 = I q) ∧ (0 ≤ q) ∧ (q ≤ (a.rows.getD k.toNat vr0).l.length) ∧ (∀ i : Int, 0 ≤ i → i < q → fitsS (shG s (s.vars.getD k.toNat var0)) ((a.rows.getD k.toNat vr0).l.getD i.toNat val0).el = true)) (fun q => ((a.rows.getD k.toNat vr0).l.length - q).toNat) (0) ⟨Fr.refl _ _, hH122, rfl, (by omega), (by omega), fun j a b => absurd b (by omega)⟩ ?_
             rintro q sg126 w126 ⟨fr126, hH126, e8_126, q0, qk, hq⟩
             have e3_126 := (fr126 3 rfl).trans e3_11
             have e5_126 := (fr126 5 rfl).trans e5_11
             have e7_126 := fr126.pp 7 rfl rfl
             refine CW.seq <| SR <| vm e8_126 <| V (fA underlying29 1 rfl sizeOf27 e3_126) <| V (run_ldV (ha.rows.sl.hp hH126) underlying27 rfl rfl (hH126.cell (i := 2) rfl rfl)) <| vm e5_126 <| V (run_indexAddrS (ha.rows.sl.hp hH126) underlying27 sizeOf48 rfl rfl (by omega)) <| V (run_ld underlying48 rfl rfl ((ha.rows.sl.hp hH126).cell _ _ (rowsC_at (by omega)))) <| V (run_lenSl ((ha.at (by omega) (by omega)).sl.hp hH126) rfl underlying48 rfl) <| V (run_lss rfl rfl) <| RL.nil <| CW.condP rfl (fun h128 => ?_) (fun h128 => ?_)
             ·refine CW.skip <| CW.seq <| CW.block <| CW.seq <| CW.regionD (by kernel_rfl) hH126 <| fun w129 hH130 => have zh130 := hH130.sub sR; AT 0 rfl zh130 (fun w hS => run_ldA (cs := [B _, _]) underlying42 rfl rfl e7_126 (rangeAt_cells (hS.blk (i := 0) rfl))) <| AQ 1 rfl zh130 (fA underlying29 1 rfl sizeOf27 e3_126) <| AT 2 rfl zh130 (fun w hS => run_ldV (ha.rows.sl.hp hS) underlying27 rfl rfl (hS.cell (i := 2) rfl rfl)) <| AQ 3 rfl zh130 (run_move e5_126) <| AT 4 rfl zh130 (fun w hS => run_indexAddrS (ha.rows.sl.hp hS) underlying27 sizeOf48 rfl rfl (by omega)) <| AT 5 rfl zh130 (fun w hS => run_ld underlying48 rfl rfl ((ha.rows.sl.hp hS).cell _ _ (rowsC_at (by omega)))) <| AQ 6 rfl zh130 (run_move e8_126) <| AT 7 rfl zh130 (fun w hS => run_indexAddrS ((ha.at (by omega) (by omega)).sl.hp hS) underlying48 sizeOf53 rfl rfl (by omega)) <| AQ 8 rfl zh130 (fA underlying53 1 rfl sizeOf51 rfl) <| AT 9 rfl zh130 (fun w hS => run_ldVE ((ha.at (by omega) (by omega)).sl.hp hS) underlying51 rfl rfl rfl (by omega)) <| A1 10 <| AO.callP rfl gnone rfl hH130 sR (c_clearanceref07_Fits _ _  _ ((hs.at (by omega) (by omega)).mono hH130.kw)) (run_call2 call27 rfl rfl) <| fun w131 hH132 => AQ 11 rfl (hH132.sub sR) (run_not rfl) <| AD <| CW.cond rfl (fun h135 => ?_) (fun h135 => ?_)
              ·refine SR <| va (v := B false) rfl <| RL.nil <| CW.ret <| outP1 Tryz.results10 (congrArg B ?_) hH132.below
               (exfalso; omega)
              ·refine CW.skip <| CW.region <| vm e8_126 <| V (run_add rfl rfl (by omega)) <| aI rfl <| RL.nil <| ?_
               refine ⟨q + 1, ?_, fr126.u4.u4.u4.u4.u4.u1.u1.u1, hH132, (congrArg I (by rfl)), ?_, ?_, ?_⟩
               ·((try dsimp only); omega)
               ·omega
               ·omega
               ·exact fun i u v => if e : i = q then e ▸ nf ‹(!fitsS _ (ValR.el _)) = false› else hq i u (by omega)
             ·refine CW.exit (id := 2) rfl <| CW.region <| vm e5_126 <| V (run_add rfl rfl (by omega)) <| aI rfl <| RL.nil <| ?_
              refine ⟨k + 1, ?_, (((fr11.u4.u4.u4.u4.u4.u4.u4.u4.u4.u4.u4.u4.u4.u4.u4.u4.u4.u4.u4.u4.u4).t fr126 rfl)).u4.u4.u1.u1.u1, (hH126.sub (sQ (sQ sR))), (congrArg I (by rfl)), ?_, ?_, ?_⟩
              ·((try dsimp only); omega)
              ·omega
              ·omega
              ·exact fun i u v => if e : i = k then e ▸ (by exfalso; omega) else hg i u (by omega)
          ·refine gF rfl (bF h118) <| gF rfl (bF h118) <| gF rfl (bF h118) <| gF rfl (bF h118) <| gF rfl (bF h118) <| gF rfl (bF h118) <| gF rfl (bF h118) <| gF rfl (bF h118) <| RL.gU rfl rfl rfl <| RL.gU rfl rfl rfl <| RL.gU rfl rfl rfl <| RL.gU rfl rfl rfl <| RL.gU rfl rfl rfl <| RL.gU rfl rfl rfl <| RL.gU rfl rfl rfl <| gF rfl (bF h118) <| V (run_pickF (bF h118) (v := B false) rfl) <| RL.nil <| CW.condF rfl <| CW.skip <| SR <| va (v := I 0) rfl <| RL.nil <| CW.block <| have hm5 := (ha.at h0 (by omega)).small; ?_
           unfold maxLen at hm5
           refine CW.loop (G := Int) (fun q s' w' => (Fr (4 :: (8 :: (rg 108 22 []))) _ s') ∧ (Hp w w' _) ∧ (s' 8 = I q) ∧ (0 ≤ q) ∧ (q ≤ (a.rows.getD k.toNat vr0).l.length) ∧ (∀ i : Int, 0 ≤ i → i < q → fitsS (shG s (s.vars.getD k.toNat var0)) ((a.rows.getD k.toNat vr0).l.getD i.toNat val0).el = true)) (fun q => ((a.rows.getD k.toNat vr0).l.length - q).toNat) (0) ⟨Fr.refl _ _, hH111, rfl, (by omega), (by omega), fun j a b => absurd b (by omega)⟩ ?_
           rintro q sg136 w136 ⟨fr136, hH136, e8_136, q0, qk, hq⟩
           have e3_136 := (fr136 3 rfl).trans e3_11
           have e5_136 := (fr136 5 rfl).trans e5_11
           have e7_136 := fr136.pp 7 rfl rfl
           refine CW.seq <| SR <| vm e8_136 <| V (fA underlying29 1 rfl sizeOf27 e3_136) <| V (run_ldV (ha.rows.sl.hp hH136) underlying27 rfl rfl (hH136.cell (i := 2) rfl rfl)) <| vm e5_136 <| V (run_indexAddrS (ha.rows.sl.hp hH136) underlying27 sizeOf48 rfl rfl (by omega)) <| V (run_ld underlying48 rfl rfl ((ha.rows.sl.hp hH136).cell _ _ (rowsC_at (by omega)))) <| V (run_lenSl ((ha.at (by omega) (by omega)).sl.hp hH136) rfl underlying48 rfl) <| V (run_lss rfl rfl) <| RL.nil <| CW.condP rfl (fun h138 => ?_) (fun h138 => ?_)
           ·refine CW.skip <| CW.seq <| CW.block <| CW.seq <| CW.regionD (by kernel_rfl) hH136 <| fun w139 hH140 => have zh140 := hH140.sub sR; AT 0 rfl zh140 (fun w hS => run_ldA (cs := [B _, _]) underlying42 rfl rfl e7_136 (rangeAt_cells (hS.blk (i := 0) rfl))) <| AQ 1 rfl zh140 (fA underlying29 1 rfl sizeOf27 e3_136) <| AT 2 rfl zh140 (fun w hS => run_ldV (ha.rows.sl.hp hS) underlying27 rfl rfl (hS.cell (i := 2) rfl rfl)) <| AQ 3 rfl zh140 (run_move e5_136) <| AT 4 rfl zh140 (fun w hS => run_indexAddrS (ha.rows.sl.hp hS) underlying27 sizeOf48 rfl rfl (by omega)) <| AT 5 rfl zh140 (fun w hS => run_ld underlying48 rfl rfl ((ha.rows.sl.hp hS).cell _ _ (rowsC_at (by omega)))) <| AQ 6 rfl zh140 (run_move e8_136) <| AT 7 rfl zh140 (fun w hS => run_indexAddrS ((ha.at (by omega) (by omega)).sl.hp hS) underlying48 sizeOf53 rfl rfl (by omega)) <| AQ 8 rfl zh140 (fA underlying53 1 rfl sizeOf51 rfl) <| AT 9 rfl zh140 (fun w hS => run_ldVE ((ha.at (by omega) (by omega)).sl.hp hS) underlying51 rfl rfl rfl (by omega)) <| A1 10 <| AO.callP rfl gnone rfl hH140 sR (c_clearanceref07_Fits _ _  _ ((hs.at (by omega) (by omega)).mono hH140.kw)) (run_call2 call27 rfl rfl) <| fun w141 hH142 => AQ 11 rfl (hH142.sub sR) (run_not rfl) <| AD <| CW.cond rfl (fun h145 => ?_) (fun h145 => ?_)
            ·refine SR <| va (v := B false) rfl <| RL.nil <| CW.ret <| outP1 Tryz.results10 (congrArg B ?_) hH142.below
             (exfalso; omega)
            ·refine CW.skip <| CW.region <| vm e8_136 <| V (run_add rfl rfl (by omega)) <| aI rfl <| RL.nil <| ?_
             refine ⟨q + 1, ?_, fr136.u4.u4.u4.u4.u4.u1.u1.u1, hH142, (congrArg I (by rfl)), ?_, ?_, ?_⟩
             ·((try dsimp only); omega)
             ·omega
             ·omega
             ·exact fun i u v => if e : i = q then e ▸ nf ‹(!fitsS _ (ValR.el _)) = false› else hq i u (by omega)
           ·refine CW.exit (id := 2) rfl <| CW.region <| vm e5_136 <| V (run_add rfl rfl (by omega)) <| aI rfl <| RL.nil <| ?_
            refine ⟨k + 1, ?_, (((fr11.u4.u4.u4.u4.u4.u4.u4.u4.u4.u4.u4.u4.u4.u4.u4.u4.u4.u4.u4.u4.u4).t fr136 rfl)).u4.u4.u1.u1.u1, (hH136.sub (sQ (sQ sR))), (congrArg I (by rfl)), ?_, ?_, ?_⟩
            ·((try dsimp only); omega)
            ·omega
            ·omega
            ·exact fun i u v => if e : i = k then e ▸ (by exact ok_y1 ⟨by omega, by omega⟩ (by omega) (by omega) (nf ‹(!fitsS _ (List.getD a.labels _ _)) = false›)) else hg i u (by omega)
       ·refine AK 4 rfl rfl (bF h109) (hH107.sub sR) <| AK 5 rfl rfl (bF h109) (hH107.sub sR) <| AK 6 rfl rfl (bF h109) (hH107.sub sR) <| AK 7 rfl rfl (bF h109) (hH107.sub sR) <| AK 8 rfl rfl (bF h109) (hH107.sub sR) <| AK 9 rfl rfl (bF h109) (hH107.sub sR) <| AK 10 rfl rfl (bF h109) (hH107.sub sR) <| AK 11 rfl rfl (bF h109) (hH107.sub sR) <| AK 12 rfl rfl (bF h109) (hH107.sub sR) <| AU 13 rfl rfl rfl (hH107.sub sR) <| AU 14 rfl rfl rfl (hH107.sub sR) <| AU 15 rfl rfl rfl (hH107.sub sR) <| AU 16 rfl rfl rfl (hH107.sub sR) <| AU 17 rfl rfl rfl (hH107.sub sR) <| AU 18 rfl rfl rfl (hH107.sub sR) <| AU 19 rfl rfl rfl (hH107.sub sR) <| AK 20 rfl rfl (bF h109) (hH107.sub sR) <| AQ 21 rfl zh107 (run_pickF (bF h109) (v := B false) rfl) <| AD <| CW.condF rfl <| CW.skip <| CW.seq <| SR <| V (fA underlying47 1 rfl sizeOf3 rfl) <| V (run_ld underlying3 rfl rfl (hH107.cell (i := 1) rfl (v := I _) rfl)) <| V (run_eql rfl rfl) <| mB rfl <| RL.splitP (dj := 90) rfl (fun h147 => ?_) (fun h147 => ?_)
        ·refine gT rfl (bT h147) <| V (fA underlying29 0 rfl sizeOf26 e3_11) <| gT rfl (bT h147) <| V (run_ldV (ha.labels.sl.hp hH107) underlying26 rfl rfl (hH107.cell (i := 2) rfl rfl)) <| gT rfl (bT h147) <| vm e5_11 <| gT rfl (bT h147) <| V (run_indexAddrS (ha.labels.sl.hp hH107) underlying26 sizeOf51 rfl rfl (by omega)) <| gT rfl (bT h147) <| V (run_ldElS (ha.labels.sl.hp hH107) underlying51 rfl rfl rfl (by omega)) <| gT rfl (bT h147) <| V (run_bld (vs := []) rfl (built_el0)) <| gT rfl (bT h147) <| V (run_neqEl elT_fact rfl rfl) <| gT rfl (bT h147) <| mB rfl <| RL.split (dj := 98) rfl (fun h149 => ?_) (fun h149 => ?_)
         ·refine gF rfl (bR (c := true) h149) <| gF rfl (bR (c := true) h149) <| gF rfl (bR (c := true) h149) <| gF rfl (bR (c := true) h149) <| gF rfl (bR (c := true) h149) <| gF rfl (bR (c := true) h149) <| gF rfl (bR (c := true) h149) <| gT rfl (bT h147) <| V (run_pickT (bR (c := true) h149) (v := B true) rfl) <| V (run_pickT (bT h147) (v := B _) rfl) <| RL.nil <| CW.condT rfl <| SR <| va (v := B false) rfl <| RL.nil <| CW.ret <| outP1 Tryz.results10 (congrArg B ?_) hH107.below
          (exfalso; omega)
         ·refine gT rfl (bR (c := false) h149) <| V (fA underlying29 1 rfl sizeOf27 e3_11) <| gT rfl (bR (c := false) h149) <| V (run_ldV (ha.rows.sl.hp hH107) underlying27 rfl rfl (hH107.cell (i := 2) rfl rfl)) <| gT rfl (bR (c := false) h149) <| vm e5_11 <| gT rfl (bR (c := false) h149) <| V (run_indexAddrS (ha.rows.sl.hp hH107) underlying27 sizeOf48 rfl rfl (by omega)) <| gT rfl (bR (c := false) h149) <| V (run_ld underlying48 rfl rfl ((ha.rows.sl.hp hH107).cell _ _ (rowsC_at (by omega)))) <| gT rfl (bR (c := false) h149) <| RL.callP rfl hH107 (c_clearanceref18_ordered _ _  _ ((ha.at (by omega) (by omega)).sl.hp hH107)) (run_call1 call28 rfl) <| fun w150 hH151 => gT rfl (bR (c := false) h149) <| V (run_not rfl) <| gT rfl (bT h147) <| V (run_pickF (bR (c := false) h149) (v := B _) rfl) <| V (run_pickT (bT h147) (v := B _) rfl) <| RL.nil <| CW.cond rfl (fun h154 => ?_) (fun h154 => ?_)
          ·refine SR <| va (v := B false) rfl <| RL.nil <| CW.ret <| outP1 Tryz.results10 (congrArg B ?_) hH151.below
           (exfalso; omega)
          ·refine CW.skip <| SR <| va (v := I 0) rfl <| RL.nil <| CW.block <| have hm5 := (ha.at h0 (by omega)).small; ?_
           unfold maxLen at hm5
           refine CW.loop (G := Int) (fun q s' w' => (Fr (4 :: (8 :: (rg 108 22 []))) _ s') ∧ (Hp w w' _) ∧ (s' 8 = I q) ∧ (0 ≤ q) ∧ (q ≤ (a.rows.getD k.toNat vr0).l.length) ∧ (∀ i : Int, 0 ≤ i → i < q → fitsS (shG s (s.vars.getD k.toNat var0)) ((a.rows.getD k.toNat vr0).l.getD i.toNat val0).el = true)) (fun q => ((a.rows.getD k.toNat vr0).l.length - q).toNat) (0) ⟨Fr.refl _ _, hH151, rfl, (by omega), (by omega), fun j a b => absurd b (by omega)⟩ ?_
           rintro q sg155 w155 ⟨fr155, hH155, e8_155, q0, qk, hq⟩
           have e3_155 := (fr155 3 rfl).trans e3_11
           have e5_155 := (fr155 5 rfl).trans e5_11
           have e7_155 := fr155.pp 7 rfl rfl
           refine CW.seq <| SR <| vm e8_155 <| V (fA underlying29 1 rfl sizeOf27 e3_155) <| V (run_ldV (ha.rows.sl.hp hH155) underlying27 rfl rfl (hH155.cell (i := 2) rfl rfl)) <| vm e5_155 <| V (run_indexAddrS (ha.rows.sl.hp hH155) underlying27 sizeOf48 rfl rfl (by omega)) <| V (run_ld underlying48 rfl rfl ((ha.rows.sl.hp hH155).cell _ _ (rowsC_at (by omega)))) <| V (run_lenSl ((ha.at (by omega) (by omega)).sl.hp hH155) rfl underlying48 rfl) <| V (run_lss rfl rfl) <| RL.nil <| CW.condP rfl (fun h157 => ?_) (fun h157 => ?_)
           ·refine CW.skip <| CW.seq <| CW.block <| CW.seq <| CW.regionD (by kernel_rfl) hH155 <| fun w158 hH159 => have zh159 := hH159.sub sR; AT 0 rfl zh159 (fun w hS => run_ldA (cs := [B _, _]) underlying42 rfl rfl e7_155 (rangeAt_cells (hS.blk (i := 0) rfl))) <| AQ 1 rfl zh159 (fA underlying29 1 rfl sizeOf27 e3_155) <| AT 2 rfl zh159 (fun w hS => run_ldV (ha.rows.sl.hp hS) underlying27 rfl rfl (hS.cell (i := 2) rfl rfl)) <| AQ 3 rfl zh159 (run_move e5_155) <| AT 4 rfl zh159 (fun w hS => run_indexAddrS (ha.rows.sl.hp hS) underlying27 sizeOf48 rfl rfl (by omega)) <| AT 5 rfl zh159 (fun w hS => run_ld underlying48 rfl rfl ((ha.rows.sl.hp hS).cell _ _ (rowsC_at (by omega)))) <| AQ 6 rfl zh159 (run_move e8_155) <| AT 7 rfl zh159 (fun w hS => run_indexAddrS ((ha.at (by omega) (by omega)).sl.hp hS) underlying48 sizeOf53 rfl rfl (by omega)) <| AQ 8 rfl zh159 (fA underlying53 1 rfl sizeOf51 rfl) <| AT 9 rfl zh159 (fun w hS => run_ldVE ((ha.at (by omega) (by omega)).sl.hp hS) underlying51 rfl rfl rfl (by omega)) <| A1 10 <| AO.callP rfl gnone rfl hH159 sR (c_clearanceref07_Fits _ _  _ ((hs.at (by omega) (by omega)).mono hH159.kw)) (run_call2 call27 rfl rfl) <| fun w160 hH161 => AQ 11 rfl (hH161.sub sR) (run_not rfl) <| AD <| CW.cond rfl (fun h164 => ?_) (fun h164 => ?_)
            ·refine SR <| va (v := B false) rfl <| RL.nil <| CW.ret <| outP1 Tryz.results10 (congrArg B ?_) hH161.below
             (exfalso; omega)
            ·refine CW.skip <| CW.region <| vm e8_155 <| V (run_add rfl rfl (by omega)) <| aI rfl <| RL.nil <| ?_
             refine ⟨q + 1, ?_, fr155.u4.u4.u4.u4.u4.u1.u1.u1, hH161, (congrArg I (by rfl)), ?_, ?_, ?_⟩
             ·((try dsimp only); omega)
             ·omega
             ·omega
             ·exact fun i u v => if e : i = q then e ▸ nf ‹(!fitsS _ (ValR.el _)) = false› else hq i u (by omega)
           ·refine CW.exit (id := 2) rfl <| CW.region <| vm e5_155 <| V (run_add rfl rfl (by omega)) <| aI rfl <| RL.nil <| ?_
            refine ⟨k + 1, ?_, (((fr11.u4.u4.u4.u4.u4.u4.u4.u4.u4.u4.u4.u4.u4.u4.u4.u4.u4.u4.u4.u4.u4).t fr155 rfl)).u4.u4.u1.u1.u1, (hH155.sub (sQ (sQ sR))), (congrArg I (by rfl)), ?_, ?_, ?_⟩
            ·((try dsimp only); omega)
            ·omega
            ·omega
            ·exact fun i u v => if e : i = k then e ▸ (by exfalso; omega) else hg i u (by omega)
        ·refine gF rfl (bF h147) <| gF rfl (bF h147) <| gF rfl (bF h147) <| gF rfl (bF h147) <| gF rfl (bF h147) <| gF rfl (bF h147) <| gF rfl (bF h147) <| gF rfl (bF h147) <| RL.gU rfl rfl rfl <| RL.gU rfl rfl rfl <| RL.gU rfl rfl rfl <| RL.gU rfl rfl rfl <| RL.gU rfl rfl rfl <| RL.gU rfl rfl rfl <| RL.gU rfl rfl rfl <| gF rfl (bF h147) <| V (run_pickF (bF h147) (v := B false) rfl) <| RL.nil <| CW.condF rfl <| CW.skip <| SR <| va (v := I 0) rfl <| RL.nil <| CW.block <| have hm5 := (ha.at h0 (by omega)).small; ?_
         unfold maxLen at hm5
         refine CW.loop (G := Int) (fun q s' w' => (Fr (4 :: (8 :: (rg 108 22 []))) _ s') ∧ (Hp w w' _) ∧ (s' 8 = I q) ∧ (0 ≤ q) ∧ (q ≤ (a.rows.getD k.toNat vr0).l.length) ∧ (∀ i : Int, 0 ≤ i → i < q → fitsS (shG s (s.vars.getD k.toNat var0)) ((a.rows.getD k.toNat vr0).l.getD i.toNat val0).el = true)) (fun q => ((a.rows.getD k.toNat vr0).l.length - q).toNat) (0) ⟨Fr.refl _ _, hH107, rfl, (by omega), (by omega), fun j a b => absurd b (by omega)⟩ ?_
         rintro q sg165 w165 ⟨fr165, hH165, e8_165, q0, qk, hq⟩
         have e3_165 := (fr165 3 rfl).trans e3_11
         have e5_165 := (fr165 5 rfl).trans e5_11
         have e7_165 := fr165.pp 7 rfl rfl
         refine CW.seq <| SR <| vm e8_165 <| V (fA underlying29 1 rfl sizeOf27 e3_165) <| V (run_ldV (ha.rows.sl.hp hH165) underlying27 rfl rfl (hH165.cell (i := 2) rfl rfl)) <| vm e5_165 <| V (run_indexAddrS (ha.rows.sl.hp hH165) underlying27 sizeOf48 rfl rfl (by omega)) <| V (run_ld underlying48 rfl rfl ((ha.rows.sl.hp hH165).cell _ _ (rowsC_at (by omega)))) <| V (run_lenSl ((ha.at (by omega) (by omega)).sl.hp hH165) rfl underlying48 rfl) <| V (run_lss rfl rfl) <| RL.nil <| CW.condP rfl (fun h167 => ?_) (fun h167 => ?_)
         ·refine CW.skip <| CW.seq <| CW.block <| CW.seq <| CW.regionD (by kernel_rfl) hH165 <| fun w168 hH169 => have zh169 := hH169.sub sR; AT 0 rfl zh169 (fun w hS => run_ldA (cs := [B _, _]) underlying42 rfl rfl e7_165 (rangeAt_cells (hS.blk (i := 0) rfl))) <| AQ 1 rfl zh169 (fA underlying29 1 rfl sizeOf27 e3_165) <| AT 2 rfl zh169 (fun w hS => run_ldV (ha.rows.sl.hp hS) underlying27 rfl rfl (hS.cell (i := 2) rfl rfl)) <| AQ 3 rfl zh169 (run_move e5_165) <| AT 4 rfl zh169 (fun w hS => run_indexAddrS (ha.rows.sl.hp hS) underlying27 sizeOf48 rfl rfl (by omega)) <| AT 5 rfl zh169 (fun w hS => run_ld underlying48 rfl rfl ((ha.rows.sl.hp hS).cell _ _ (rowsC_at (by omega)))) <| AQ 6 rfl zh169 (run_move e8_165) <| AT 7 rfl zh169 (fun w hS => run_indexAddrS ((ha.at (by omega) (by omega)).sl.hp hS) underlying48 sizeOf53 rfl rfl (by omega)) <| AQ 8 rfl zh169 (fA underlying53 1 rfl sizeOf51 rfl) <| AT 9 rfl zh169 (fun w hS => run_ldVE ((ha.at (by omega) (by omega)).sl.hp hS) underlying51 rfl rfl rfl (by omega)) <| A1 10 <| AO.callP rfl gnone rfl hH169 sR (c_clearanceref07_Fits _ _  _ ((hs.at (by omega) (by omega)).mono hH169.kw)) (run_call2 call27 rfl rfl) <| fun w170 hH171 => AQ 11 rfl (hH171.sub sR) (run_not rfl) <| AD <| CW.cond rfl (fun h174 => ?_) (fun h174 => ?_)
          ·refine SR <| va (v := B false) rfl <| RL.nil <| CW.ret <| outP1 Tryz.results10 (congrArg B ?_) hH171.below
           (exfalso; omega)
          ·refine CW.skip <| CW.region <| vm e8_165 <| V (run_add rfl rfl (by omega)) <| aI rfl <| RL.nil <| ?_
           refine ⟨q + 1, ?_, fr165.u4.u4.u4.u4.u4.u1.u1.u1, hH171, (congrArg I (by rfl)), ?_, ?_, ?_⟩
           ·((try dsimp only); omega)
           ·omega
           ·omega
           ·exact fun i u v => if e : i = q then e ▸ nf ‹(!fitsS _ (ValR.el _)) = false› else hq i u (by omega)
         ·refine CW.exit (id := 2) rfl <| CW.region <| vm e5_165 <| V (run_add rfl rfl (by omega)) <| aI rfl <| RL.nil <| ?_
          refine ⟨k + 1, ?_, (((fr11.u4.u4.u4.u4.u4.u4.u4.u4.u4.u4.u4.u4.u4.u4.u4.u4.u4.u4.u4.u4.u4).t fr165 rfl)).u4.u4.u1.u1.u1, (hH165.sub (sQ (sQ sR))), (congrArg I (by rfl)), ?_, ?_, ?_⟩
          ·((try dsimp only); omega)
          ·omega
          ·omega
          ·exact fun i u v => if e : i = k then e ▸ (by exfalso; omega) else hg i u (by omega)
   ·refine CW.exit (id := 0) rfl <| SR <| va (v := B true) rfl <| RL.nil <| CW.ret <| outP1 Tryz.results10 (congrArg B ?_) hH11.below
    exact (right_y e1 e2 ‹¬ k < _› hg).symm
theorem c_clearancelaw18_Big (a : Asg) (hbd : ∀ r ∈ a.rows, r.l.length ≤ 1759218604390) (w : World) (ha : AsgV (Kw w) a) : Calls Tryz.prog 7 #[.agg (asgL a).toArray] w (Pure (B (bigA a)) w) := by
 have hm1 := ha.labels.small
 have hm2 := ha.rows.small
 unfold maxLen at hm1 hm2
 refine enter Tryz.func7 rfl Tryz.ntmps7 rfl <| have hH := Hp.start w; SR <| RL.new rfl hH (f := fun b => (.pointer (some ⟨b, 0, none⟩))) (run_box (v := .agg _) rfl) <| fun b3 w1 hH2 => va (v := B false) rfl <| RL.nil <| CW.seq <| SR <| V (fA underlying29 0 rfl sizeOf26 rfl) <| V (run_ldV (ha.labels.sl.hp hH2) underlying26 rfl rfl (hH2.cell (i := 0) rfl rfl)) <| V (run_lenSl (ha.labels.sl.hp hH2) rfl underlying26 rfl) <| V (run_gtr rfl rfl) <| mB rfl <| RL.splitP (dj := 12) rfl (fun h5 => ?_) (fun h5 => ?_)
 ·refine gF rfl (bT h5) <| gF rfl (bT h5) <| gF rfl (bT h5) <| gF rfl (bT h5) <| V (run_pickT (bT h5) (v := B true) rfl) <| RL.nil <| CW.condT rfl <| SR <| va (v := B true) rfl <| RL.nil <| CW.ret <| outP1 Tryz.results7 (congrArg B ?_) hH2.below
  (rw [bigA, decide_eq_true (by omega)]; rfl)
 ·refine gT rfl (bF h5) <| V (fA underlying29 1 rfl sizeOf27 rfl) <| gT rfl (bF h5) <| V (run_ldV (ha.rows.sl.hp hH2) underlying27 rfl rfl (hH2.cell (i := 0) rfl rfl)) <| gT rfl (bF h5) <| V (run_lenSl (ha.rows.sl.hp hH2) rfl underlying27 rfl) <| gT rfl (bF h5) <| V (run_gtr rfl rfl) <| V (run_pickF (bF h5) (v := B _) rfl) <| RL.nil <| CW.condP rfl (fun h7 => ?_) (fun h7 => ?_)
  ·refine SR <| va (v := B true) rfl <| RL.nil <| CW.ret <| outP1 Tryz.results7 (congrArg B ?_) hH2.below
   (rw [bigA, decide_eq_true (by omega)]; rfl)
  ·refine CW.skip <| SR <| va (v := I 0) rfl <| RL.nil <| CW.seq <| SR <| V (fA underlying29 1 rfl sizeOf27 rfl) <| V (run_ldV (ha.rows.sl.hp hH2) underlying27 rfl rfl (hH2.cell (i := 0) rfl rfl)) <| V (run_lenSl (ha.rows.sl.hp hH2) rfl underlying27 rfl) <| vm (v := I 0) rfl <| RL.nil <| CW.block <| have hno : ¬ (100 < a.labels.length ∨ 100 < a.rows.length) := (by omega); CW.loop (G := Int) (fun k s' w' => (Fr (2 :: 3 :: (5 :: (7 :: (rg 21 20 [])))) _ s') ∧ (Hp w w' _) ∧ (s' 3 = I (rsum (a.rows.take k.toNat))) ∧ (s' 21 = I k) ∧ (0 ≤ k) ∧ (k ≤ a.rows.length) ∧ (∀ i : Int, 0 ≤ i → i < k → bigR (a.rows.getD i.toNat vr0) = false)) (fun k => (a.rows.length - k).toNat) (0) ⟨Fr.refl _ _, hH2, rfl, rfl, (by omega), (by omega), fun j a b => absurd b (by omega)⟩ <| ?_
   rintro k sg8 w8 ⟨fr8, hH8, e3_8, e21_8, h0, hk, hg⟩
   have e19_8 := (fr8 19 rfl).trans (by conv => lhs; whnf)
   have e20_8 := fr8.ii 20 rfl rfl
   refine SR <| V (run_lss e21_8 e20_8) <| RL.nil <| CW.seq <| CW.condP rfl (fun h10 => ?_) (fun h10 => ?_)
   ·refine CW.skip <| CW.seq <| CW.block <| SR <| V (run_indexAddrS (ha.rows.sl.hp hH8) underlying27 sizeOf48 e19_8 e21_8 (by omega)) <| V (run_ld underlying48 rfl rfl ((ha.rows.sl.hp hH8).cell _ _ (rowsC_at (by omega)))) <| ?_
    refine V (run_assign (by conv => lhs; whnf)) ?_
    refine RL.nil <| SR <| vm e3_8 <| ?_
    refine V (run_move (by conv => lhs; whnf)) ?_
    refine V (run_lenSl ((ha.at (by omega) (by omega)).sl.hp hH8) rfl underlying48 rfl) <| V (run_add rfl rfl (by have hb2 := hbd _ (List.mem_of_getElem? (getD_at (d := vr0) h0 ‹k < _›)); have hb3 := rsum_bd hbd h0 (show k ≤ 100 by omega); omega)) <| aI rfl <| RL.nil <| SR <| ?_
    refine V (run_move (by conv => lhs; whnf)) ?_
    refine V (run_lenSl ((ha.at (by omega) (by omega)).sl.hp hH8) rfl underlying48 rfl) <| vm (v := I 0) rfl <| RL.nil <| CW.block <| have hm5 := (ha.at h0 (by omega)).small; ?_
    unfold maxLen at hm5
    refine CW.loop (G := Int) (fun q s' w' => (Fr (2 :: (7 :: (rg 31 9 []))) _ s') ∧ (Hp w w' _) ∧ (s' 31 = I q) ∧ (0 ≤ q) ∧ (q ≤ (a.rows.getD k.toNat vr0).l.length) ∧ (∀ i : Int, 0 ≤ i → i < q → bigNm ((a.rows.getD k.toNat vr0).l.getD i.toNat val0) = false)) (fun q => ((a.rows.getD k.toNat vr0).l.length - q).toNat) (0) ⟨Fr.refl _ _, hH8, rfl, (by omega), (by omega), fun j a b => absurd b (by omega)⟩ ?_
    rintro q sg11 w11 ⟨fr11, hH11, e31_11, q0, qk, hq⟩
    have e3_11 := fr11.ii 3 rfl rfl
    have e21_11 := (fr11 21 rfl).trans e21_8
    have e29_11 := (fr11 29 rfl).trans (by conv => lhs; whnf)
    have e30_11 := fr11.ii 30 rfl rfl
    refine SR <| V (run_lss e31_11 e30_11) <| RL.nil <| CW.seq <| CW.condP rfl (fun h13 => ?_) (fun h13 => ?_)
    ·refine CW.skip <| CW.seq <| CW.block <| SR <| V (run_indexAddrS ((ha.at (by omega) (by omega)).sl.hp hH11) underlying48 sizeOf53 e29_11 e31_11 (by omega)) <| V (run_ldE (dv := val0) valL_len ((ha.at (by omega) (by omega)).sl.hp hH11) underlying53 rfl rfl rfl (by omega)) <| RL.new rfl hH11 (f := fun b => (.pointer (some ⟨b, 0, none⟩))) (run_alloc zero_val) <| fun b16 w14 hH15 => RL.set hH15 (i := 0) rfl (run_stW (c' := (valL _).toArray) rfl rfl rfl (valL_one _) (hH15.blk (i := 0) rfl) rfl) <| fun w17 hH18 => ?_
     simp only [z2] at hH18
     refine RL.nil <| SR <| V (fA underlying53 0 rfl sizeOf9 rfl) <| V (run_ld underlying9 rfl rfl (hH18.cell (i := 0) rfl (v := .string _) rfl)) <| V (run_lenStr rfl underlying9 rfl) <| V (run_gtr rfl rfl) <| RL.nil <| CW.condP rfl (fun h20 => ?_) (fun h20 => ?_)
     ·refine SR <| va (v := B true) rfl <| RL.nil <| CW.ret <| outP1 Tryz.results7 (congrArg B ?_) hH18.below
      (rw [bigA, any_yes (d := vr0) (P := bigR) h0 ‹k < _› (any_yes (d := val0) (P := bigNm) q0 ‹q < _› (decide_eq_true (by omega)))]; simp; done)
     ·refine CW.skip <| CW.region <| V (run_add e31_11 rfl (by omega)) <| mI rfl <| RL.nil <| ?_
      refine ⟨q + 1, ?_, fr11.u4.u4.u1.u1, (hH18.sub (sQ sR)), (congrArg I (by rfl)), ?_, ?_, ?_⟩
      ·((try dsimp only); omega)
      ·omega
      ·omega
      ·exact fun i u v => if e : i = q then e ▸ decide_eq_false (by omega) else hq i u (by omega)
    ·refine CW.exit (id := 2) rfl <| CW.region <| V (run_add e21_11 rfl (by omega)) <| mI rfl <| RL.nil <| ?_
     refine ⟨k + 1, ?_, (((fr8.u4.u4.u4).t fr11 rfl)).u1.u1.u1, hH11, (Eq.trans e3_11 (congrArg I (rsum_next h0 ‹k < _›).symm)), (congrArg I (by rfl)), ?_, ?_, ?_⟩
     ·((try dsimp only); omega)
     ·omega
     ·omega
     ·exact fun i u v => if e : i = k then e ▸ any_no (d := val0) ‹¬ q < _› hq else hg i u (by omega)
   ·refine CW.exit (id := 0) rfl <| SR <| vm e3_8 <| V (run_gtr rfl rfl) <| aB rfl <| RL.nil <| CW.ret <| outP1 Tryz.results7 (congrArg B ?_) hH8.below
    (rw [bigA, decide_eq_false hno, any_no (d := vr0) (P := bigR) ‹¬ k < _› hg, rsum_all ‹¬ k < _›]; rfl)
theorem c_name_Join (v : Value) (l : List Tx) (b : Tx) (hz : szJ b l ≤ 200000000000) (w : World) (hs : Sl w v 1 l.length (txL l)) : Calls Tryz.prog 35 #[v, S b] w (Pure (S (joinF b l)) w) := by
 have hm := hs.small
 unfold maxLen at hm
 refine enter Tryz.func35 rfl Tryz.ntmps35 rfl <| have hH := Hp.start w; SR <| va (v := .string ⟨#[]⟩) rfl <| RL.nil <| SR <| va (v := .slice none 0 0) rfl <| have hH1 := hH.nilRow 5 1; RL.nil <| CW.seq <| SR <| ?_
 refine V (run_move (by conv => lhs; whnf)) ?_
 refine V (run_lenSl (hs.hp hH1) rfl underlying54 rfl) <| vm (v := I 0) rfl <| RL.nil <| CW.block <| CW.loop (G := Int × Tx × Value) (fun ⟨k, m, v5⟩ s' w' => (Fr (5 :: 6 :: (rg 9 15 [])) _ s') ∧ (Hp w w' (.row v5 5 1 (m.size) (byL m) :: _)) ∧ (s' 5 = v5) ∧ (s' 9 = I k) ∧ (0 ≤ k) ∧ (k ≤ l.length) ∧ (m = joinTo b l k)) (fun ⟨k, m, v5⟩ => (l.length - k).toNat) ((0, tx0, (.slice none 0 0 : Value))) ⟨Fr.refl _ _, hH1, rfl, rfl, (by omega), (by omega), rfl⟩ <| ?_
 rintro ⟨k, m, v5⟩ sg2 w2 ⟨fr2, hH2, e5_2, e9_2, h0, hk, hm⟩
 have e0_2 := (fr2 0 rfl).trans (by conv => lhs; whnf)
 have e1_2 := fr2.ss 1 rfl rfl
 have e8_2 := fr2.ii 8 rfl rfl
 subst hm
 refine SR <| V (run_lss e9_2 e8_2) <| RL.nil <| CW.seq <| CW.condP rfl (fun h4 => ?_) (fun h4 => ?_)
 ·refine CW.skip <| CW.seq <| CW.block <| SR <| vm e9_2 <| aI rfl <| RL.nil <| CW.seq <| SR <| mI rfl <| V (run_gtr rfl rfl) <| RL.nil <| CW.condP rfl (fun h6 => ?_) (fun h6 => ?_)
  ·refine CW.region <| vm e5_2 <| vm e1_2 <| RL.appS rfl hH2 (i := 0) rfl rfl rfl underlying98 underlying9 rfl rfl rfl rfl (by have hjz := joinTo_sz (b := b) h0 ‹k < l.length›; (try simp only [List.length_cons, List.length_nil]); omega) <| fun v7 w8 hH9 => ?_
   simp only [z2] at hH9
   refine V (run_assign (by conv => lhs; whnf)) ?_
   refine RL.nil <| CW.region <| ?_
   refine V (run_move (by conv => lhs; whnf)) ?_
   refine vm e0_2 <| mI rfl <| V (run_indexAddrS (hs.hp hH9) underlying54 sizeOf9 rfl rfl (by omega)) <| V (run_ld underlying9 rfl rfl ((hs.hp hH9).cell _ _ (txL_at (by omega)))) <| RL.appS rfl hH9 (i := 0) rfl rfl rfl underlying98 underlying9 rfl rfl rfl rfl (by have hjz := joinTo_sz (b := b) h0 ‹k < l.length›; (try simp only [List.length_cons, List.length_nil]); omega) <| fun v10 w11 hH12 => ?_
   simp only [z2] at hH12
   refine V (run_assign (by conv => lhs; whnf)) ?_
   refine RL.nil <| CW.region <| V (run_add e9_2 rfl (by omega)) <| mI rfl <| RL.nil <| ?_
   refine ⟨(k + 1, joinTo b l (k + 1), v10), ?_, fr2.u4.u4.u4.u4.u1.u1, (Hp.conv hH12 (by rw [← join_2 ‹0 < k› ‹k < _›, tx_size_app, tx_size_app, byL_app, byL_app]; done)), rfl, (congrArg I (by rfl)), ?_, ?_, ?_⟩
   ·((try dsimp only); omega)
   ·omega
   ·omega
   ·rfl
  ·refine CW.skip <| CW.region <| vm e5_2 <| vm e0_2 <| mI rfl <| V (run_indexAddrS (hs.hp hH2) underlying54 sizeOf9 rfl rfl (by omega)) <| V (run_ld underlying9 rfl rfl ((hs.hp hH2).cell _ _ (txL_at (by omega)))) <| RL.appS rfl hH2 (i := 0) rfl rfl rfl underlying98 underlying9 rfl rfl rfl rfl (by have hjz := joinTo_sz (b := b) h0 ‹k < l.length›; (try simp only [List.length_cons, List.length_nil]); omega) <| fun v13 w14 hH15 => ?_
   simp only [z2] at hH15
   refine V (run_assign (by conv => lhs; whnf)) ?_
   refine RL.nil <| CW.region <| V (run_add e9_2 rfl (by omega)) <| mI rfl <| RL.nil <| ?_
   refine ⟨(k + 1, joinTo b l (k + 1), v13), ?_, fr2.u4.u4.u4.u1.u1, (Hp.conv hH15 (by rw [← join_1 (show k = 0 by omega) ‹k < _›, tx_size_app, byL_app])), rfl, (congrArg I (by rfl)), ?_, ?_, ?_⟩
   ·((try dsimp only); omega)
   ·omega
   ·omega
   ·rfl
 ·refine CW.exit (id := 0) rfl <| SR <| vm e5_2 <| V (run_convBS (s := (joinTo b l k)) (hH2.sl (i := 0) rfl) underlying98 underlying5 underlying9 rfl) <| va (v := .string _) rfl <| RL.nil <| CW.ret <| outP1 Tryz.results35 ?_ hH2.below
  exact congrArg S (join_all ‹¬ k < _›)
theorem c_assign_row (s : Shp) (v : Value) (l : List ValR) (hn : ∀ v ∈ l, v.name.size ≤ 40) (hl : l.length ≤ 1000) (w : World) (hs : Sl w v 9 l.length (l.flatMap valL)) (hsh : ShpV (Kw w) s) (hT : Tab w) : Calls Tryz.prog 34 #[.agg (shpC s), v] w (Pure (S (rowT s.sh l)) w) := by
 have hm := hs.small
 unfold maxLen at hm
 refine enter Tryz.func34 rfl Tryz.ntmps34 rfl <| have hH := Hp.start w; SR <| RL.new rfl hH (f := fun b => (.pointer (some ⟨b, 0, none⟩))) (run_box (v := .agg _) rfl) <| fun b3 w1 hH2 => va (v := .string ⟨#[]⟩) rfl <| RL.nil <| SR <| va (v := .slice none 0 0) rfl <| have hH4 := hH2.nilRow 9 1; RL.nil <| CW.seq <| SR <| ?_
 refine V (run_move (by conv => lhs; whnf)) ?_
 refine V (run_lenSl (hs.hp hH4) rfl underlying48 rfl) <| vm (v := I 0) rfl <| RL.nil <| CW.block <| CW.loop (G := Int × (List Tx) × Value) (fun ⟨k, m, v5⟩ s' w' => (Fr (5 :: (7 :: (rg 10 16 []))) _ s') ∧ (Hp w w' (.row v5 9 1 (m.length) (txL m) :: _)) ∧ (s' 5 = v5) ∧ (s' 10 = I k) ∧ (0 ≤ k) ∧ (k ≤ l.length) ∧ (m = (l.take k.toNat).map (fieldT s.sh)) ∧ ((m.length : Int) = k)) (fun ⟨k, m, v5⟩ => (l.length - k).toNat) ((0, [], (.slice none 0 0 : Value))) ⟨Fr.refl _ _, hH4, rfl, rfl, (by omega), (by omega), rfl, rfl⟩ <| ?_
 rintro ⟨k, m, v5⟩ sg5 w5 ⟨fr5, hH5, e5_5, e10_5, h0, hk, hm, hml⟩
 have e2_5 := fr5.pp 2 rfl rfl
 have e8_5 := (fr5 8 rfl).trans (by conv => lhs; whnf)
 have e9_5 := fr5.ii 9 rfl rfl
 refine SR <| V (run_lss e10_5 e9_5) <| RL.nil <| CW.seq <| CW.condP rfl (fun h7 => ?_) (fun h7 => ?_)
 ·refine CW.skip <| CW.seq <| CW.block <| SR <| V (run_indexAddrS (hs.hp hH5) underlying48 sizeOf53 e8_5 e10_5 (by omega)) <| V (run_ldE (dv := val0) valL_len (hs.hp hH5) underlying53 rfl rfl rfl (by omega)) <| RL.new rfl hH5 (f := fun b => (.pointer (some ⟨b, 0, none⟩))) (run_alloc zero_val) <| fun b10 w8 hH9 => RL.set hH9 (i := 0) rfl (run_stW (c' := (valL _).toArray) rfl rfl rfl (valL_one _) (hH9.blk (i := 0) rfl) rfl) <| fun w11 hH12 => ?_
  simp only [z2] at hH12
  refine RL.nil <| CW.regionS (by kernel_rfl) hH12 (sP (sQ sR)) <| fun w13 hH14 => have zh14 := hH14.sub (sP (sQ sR)); AQ 0 rfl zh14 (run_move e5_5) <| AQ 1 rfl zh14 (fA underlying53 0 rfl sizeOf9 rfl) <| AT 2 rfl zh14 (fun w hS => run_ld underlying9 rfl rfl (hS.cell (i := 0) rfl (v := .string _) rfl)) <| AQ 3 rfl zh14 (run_addS rfl rfl (by have hnk := hn _ (List.mem_of_getElem? (getD_at (d := val0) h0 ‹k < _›)); have hss := spell_sz s.sh (l.getD k.toNat val0).el; (try simp only [tx_size_app]); (try simp only [tsz1, tsz2]); omega)) <| AT 4 rfl zh14 (fun w hS => run_ldA (cs := [B _, _]) underlying42 rfl rfl e2_5 (rangeAt_cells (hS.blk (i := 1) rfl))) <| AQ 5 rfl zh14 (fA underlying53 1 rfl sizeOf51 rfl) <| AT 6 rfl zh14 (fun w hS => run_ldVB underlying51 rfl rfl rfl (hS.blk (i := 0) rfl)) <| A1 7 <| AO.callP rfl gnone rfl hH14 (sP (sQ sR)) (c_spell_Text _ _  _ (hsh.mono hH14.kw) (hT.hp hH14)) (run_call2 call33 rfl rfl) <| fun w15 hH16 => AQ 8 rfl (hH16.sub (sP (sQ sR))) (run_addS rfl rfl (by have hnk := hn _ (List.mem_of_getElem? (getD_at (d := val0) h0 ‹k < _›)); have hss := spell_sz s.sh (l.getD k.toNat val0).el; (try simp only [tx_size_app]); (try simp only [tsz1, tsz2]); omega)) <| A1 9 <| AO.new rfl gnone rfl hH16 (sP (sQ sR)) (f := fun b => .slice (some ⟨b, 0, none⟩) 1 1) (run_mkL underlying54 rfl rfl (sz := 1) (vs := [.string _]) rfl rfl (by decide) (by decide) rfl rfl) <| fun b19 w17 hH18 => ?_
  (try simp only [clX] at hH18)
  refine A1 10 <| AO.app rfl gnone rfl hH18 (j := 2) rfl (fun _ => (sQ (sP (sQ sR)))) (hH18.slBlk (i := 0) (n := 1) (sz := 1) rfl rfl (by decide)) rfl rfl underlying54 rfl rfl (size := 1) (bytes := 16) rfl rfl rfl (by decide) (by simp [Value.oneCell']) (by omega) (by simp only [maxLen]; omega) <| fun v22 w20 hH21 => ?_
  simp only [z2] at hH21
  refine AQ 11 rfl (hH21.sub (sQ (sP (sQ sR)))) (run_assign (by conv => lhs; whnf)) ?_
  refine AD <| CW.region <| V (run_add e10_5 rfl (by omega)) <| mI rfl <| RL.nil <| ?_
  refine ⟨(k + 1, m ++ [fieldT s.sh (l.getD k.toNat val0)], v22), ?_, fr5.u4.u4.u4.u4.u1.u1, (Hp.conv (hH21.sub (sQ (sQ sR))) (by (simp only [txL, List.map_append, List.map_cons, List.map_nil, List.length_append, List.length_singleton]; rfl))), rfl, (congrArg I (by rfl)), ?_, ?_, ?_, ?_⟩
  ·((try dsimp only); omega)
  ·omega
  ·omega
  ·rw [fields_next h0 ‹k < _›, ← hm]
  ·simp only [List.length_append, List.length_singleton]; omega
 ·refine CW.exit (id := 0) rfl <| SR <| vm e5_5 <| RL.callP rfl hH5 (c_name_Join _ m (tc 44) (by rw [hm, List.take_of_length_le (show l.length ≤ k.toNat by omega)]; have := fields_sz (s := s.sh) hn hl; omega) _ (hH5.sl (i := 0) rfl)) (run_call2 call35 rfl (show _ = Value.string ⟨#[44]⟩ from rfl)) <| fun w23 hH24 => V (run_addS rfl rfl (by have he : m = l.map (fieldT s.sh) := (by rw [hm, List.take_of_length_le (show l.length ≤ k.toNat by omega)]); rw [he]; have hjs := join_sz (tc 44) (l.map (fieldT s.sh)); have hfs := fields_sz (s := s.sh) hn hl; (try simp only [tx_size_app]); (try simp only [tsz1, tsz2]); omega)) <| V (run_addS rfl rfl (by have he : m = l.map (fieldT s.sh) := (by rw [hm, List.take_of_length_le (show l.length ≤ k.toNat by omega)]); rw [he]; have hjs := join_sz (tc 44) (l.map (fieldT s.sh)); have hfs := fields_sz (s := s.sh) hn hl; (try simp only [tx_size_app]); (try simp only [tsz1, tsz2]); omega)) <| va (v := .string _) rfl <| RL.nil <| CW.ret <| outP1 Tryz.results34 ?_ hH24.below
  (rw [hm, List.take_of_length_le (show l.length ≤ k.toNat by omega)]; rfl)
theorem c_assign_Text (s : Scp) (a : Asg) (hv : s.vars.length ≤ 80) (hvn : ∀ v ∈ s.vars, v.name.size ≤ 40) (hrl : ∀ r ∈ a.rows, r.l.length ≤ 200) (w : World) (hs : ScpV (Kw w) s) (ha : AsgV (Kw w) a) (hT : Tab w) : Calls Tryz.prog 14 #[.agg (scpC s), .agg (asgL a).toArray] w (Pure (S (textA s.sc a.as)) w) := by
 have hm1 := hs.lats.sl.small
 have hm2 := hs.vars.sl.small
 unfold maxLen at hm1 hm2
 have hm3 := ha.labels.small
 have hm4 := ha.rows.small
 unfold maxLen at hm3 hm4
 refine enter Tryz.func14 rfl Tryz.ntmps14 rfl <| have hH := Hp.start w; SR <| RL.new rfl hH (f := fun b => (.pointer (some ⟨b, 0, none⟩))) (run_box (v := .agg _) rfl) <| fun b3 w1 hH2 => RL.new rfl hH2 (f := fun b => (.pointer (some ⟨b, 0, none⟩))) (run_box (v := .agg _) rfl) <| fun b6 w4 hH5 => va (v := .string ⟨#[]⟩) rfl <| RL.nil <| CW.seq <| SR <| V (run_ldA (cs := scpL _) underlying25 rfl rfl rfl (rangeAt_cells (hH5.blk (i := 1) rfl))) <| V (run_ldA (cs := asgL _) underlying29 rfl rfl rfl (rangeAt_cells (hH5.blk (i := 0) rfl))) <| RL.callP rfl hH5 (c_assign_Right _ _  _ (hs.mono hH5.kw) (ha.mono hH5.kw) (hT.hp hH5)) (run_call2 call9 rfl rfl) <| fun w7 hH8 => V (run_not rfl) <| RL.nil <| CW.cond rfl (fun h11 => ?_) (fun h11 => ?_)
 ·refine SR <| va (v := .string ⟨#[]⟩) rfl <| RL.nil <| CW.ret <| outP1 Tryz.results14 ?_ hH8.below
  exact congrArg S (text_no (nt ‹(!rightA _ _) = true›)).symm
 ·refine CW.skip <| SR <| va (v := .slice none 0 0) rfl <| have hH12 := hH8.nilRow 9 1; RL.nil <| CW.seq <| SR <| V (fA underlying25 1 rfl sizeOf23 rfl) <| V (run_ldV (hs.vars.sl.hp hH12) underlying23 rfl rfl (hH12.cell (i := 2) rfl rfl)) <| V (run_lenSl (hs.vars.sl.hp hH12) rfl underlying23 rfl) <| vm (v := I 0) rfl <| RL.nil <| CW.block <| have hR := nf ‹(!rightA _ _) = false›; have hrl2 := right_len hR; have hvz : szJ (tc 32) (VS s a) ≤ 160003443520 := vars_sz hR hv hvn hrl; have hVl := VS_len (s := s) (a := a); CW.loop (G := Int × (List Tx) × Value) (fun ⟨k, m, v5⟩ s' w' => (Fr (rg 5 4 (rg 16 44 [])) _ s') ∧ (Hp w w' (.row v5 9 1 (m.length) (txL m) :: _)) ∧ (s' 5 = v5) ∧ (s' 16 = I k) ∧ (0 ≤ k) ∧ (k ≤ s.vars.length) ∧ (m = varsT s.sc a.as k)) (fun ⟨k, m, v5⟩ => (s.vars.length - k).toNat) ((0, [], (.slice none 0 0 : Value))) ⟨Fr.refl _ _, hH12, rfl, rfl, (by omega), (by omega), rfl⟩ <| ?_
  rintro ⟨k, m, v5⟩ sg13 w13 ⟨fr13, hH13, e5_13, e16_13, h0, hk, hm⟩
  have e2_13 := fr13.pp 2 rfl rfl
  have e3_13 := fr13.pp 3 rfl rfl
  have e14_13 := (fr13 14 rfl).trans (by conv => lhs; whnf)
  have e15_13 := fr13.ii 15 rfl rfl
  subst hm
  refine SR <| V (run_lss e16_13 e15_13) <| RL.nil <| CW.seq <| CW.condP rfl (fun h15 => ?_) (fun h15 => ?_)
  ·refine CW.skip <| CW.seq <| CW.block <| SR <| vm e16_13 <| V (run_indexAddrS (hs.vars.sl.hp hH13) underlying23 sizeOf47 e14_13 e16_13 (by omega)) <| V (run_ldE (dv := var0) varL_len (hs.vars.sl.hp hH13) underlying47 rfl rfl rfl (by omega)) <| RL.new rfl hH13 (f := fun b => (.pointer (some ⟨b, 0, none⟩))) (run_alloc Tryz.zeroValue47) <| fun b18 w16 hH17 => aI rfl <| RL.set hH17 (i := 0) rfl (run_stW (c' := (varL _).toArray) rfl rfl rfl (by simp [varL, Value.oneCell']) (hH17.blk (i := 0) rfl) rfl) <| fun w19 hH20 => ?_
   simp only [z2] at hH20
   refine RL.nil <| SR <| V (fA underlying25 0 rfl sizeOf22 e2_13) <| V (run_ldV (hs.lats.sl.hp hH20) underlying22 rfl rfl (hH20.cell (i := 3) rfl rfl)) <| V (fA underlying47 2 rfl sizeOf3 rfl) <| V (run_ld underlying3 rfl rfl (hH20.cell (i := 0) rfl (v := I _) rfl)) <| V (run_indexAddrS (hs.lats.sl.hp hH20) underlying22 sizeOf44 rfl rfl (by have hok := ok_lat (right_at hR h0 ‹k < s.vars.length›); omega)) <| V (fA underlying44 1 rfl sizeOf42 rfl) <| V (run_ldEA (dv := lat0) (off := 1) (cs := shpL _) latL_len (hs.lats.sl.hp hH20) underlying42 rfl rfl rfl (by have hok := ok_lat (right_at hR h0 ‹k < s.vars.length›); omega) (lat_shp _)) <| RL.new rfl hH20 (f := fun b => (.pointer (some ⟨b, 0, none⟩))) (run_alloc Tryz.zeroValue42) <| fun b23 w21 hH22 => RL.set hH22 (i := 0) rfl (run_stShp (hs.at (by have hok := ok_lat (right_at hR h0 ‹k < s.vars.length›); omega) (by have hok := ok_lat (right_at hR h0 ‹k < s.vars.length›); omega)) rfl rfl rfl (hH22.blk (i := 0) rfl) rfl) <| fun w24 hH25 => ?_
   simp only [z2] at hH25
   refine RL.nil <| CW.seq <| SR <| V (fA underlying47 1 rfl sizeOf3 rfl) <| V (run_ld underlying3 rfl rfl (hH25.cell (i := 1) rfl (v := I _) rfl)) <| V (run_eql rfl rfl) <| RL.nil <| CW.condP rfl (fun h27 => ?_) (fun h27 => ?_)
   ·refine CW.seq <| CW.regionS (by kernel_rfl) hH25 (sP (sP (sQ sR))) <| fun w28 hH29 => have zh29 := hH29.sub (sP (sP (sQ sR))); AQ 0 rfl zh29 (run_move e5_13) <| AQ 1 rfl zh29 (fA underlying47 0 rfl sizeOf9 rfl) <| AT 2 rfl zh29 (fun w hS => run_ld underlying9 rfl rfl (hS.cell (i := 1) rfl (v := .string _) rfl)) <| AQ 3 rfl zh29 (run_addS rfl rfl (by have hnk := hvn _ (List.mem_of_getElem? (getD_at (d := var0) h0 ‹k < s.vars.length›)); have hss := spell_sz (s.lats.getD (s.vars.getD k.toNat var0).lat.toNat lat0).shp.sh (a.labels.getD k.toNat el0); have hrs := row_sz (s := (s.lats.getD (s.vars.getD k.toNat var0).lat.toNat lat0).shp.sh) (names_at hR h0 ‹k < s.vars.length›) (by have := hrl _ (List.mem_of_getElem? (getD_at (d := vr0) h0 (by omega))); omega); (try simp only [tx_size_app]); (try simp only [tsz1, tsz2]); omega)) <| AT 4 rfl zh29 (fun w hS => run_ldA (cs := [B _, _]) underlying42 rfl rfl rfl (rangeAt_cells (hS.blk (i := 0) rfl))) <| AQ 5 rfl zh29 (fA underlying29 0 rfl sizeOf26 e3_13) <| AT 6 rfl zh29 (fun w hS => run_ldV (ha.labels.sl.hp hS) underlying26 rfl rfl (hS.cell (i := 2) rfl rfl)) <| AQ 7 rfl zh29 (mV (I _) rfl) <| AT 8 rfl zh29 (fun w hS => run_indexAddrS (ha.labels.sl.hp hS) underlying26 sizeOf51 rfl rfl (by omega)) <| AT 9 rfl zh29 (fun w hS => run_ldElS (ha.labels.sl.hp hS) underlying51 rfl rfl rfl (by omega)) <| A1 10 <| AO.callP rfl gnone rfl hH29 (sP (sP (sQ sR))) (c_spell_Text _ _  _ ((hs.at (by have hok := ok_lat (right_at hR h0 ‹k < s.vars.length›); omega) (by have hok := ok_lat (right_at hR h0 ‹k < s.vars.length›); omega)).mono hH29.kw) (hT.hp hH29)) (run_call2 call33 rfl rfl) <| fun w30 hH31 => AQ 11 rfl (hH31.sub (sP (sP (sQ sR)))) (run_addS rfl rfl (by have hnk := hvn _ (List.mem_of_getElem? (getD_at (d := var0) h0 ‹k < s.vars.length›)); have hss := spell_sz (s.lats.getD (s.vars.getD k.toNat var0).lat.toNat lat0).shp.sh (a.labels.getD k.toNat el0); have hrs := row_sz (s := (s.lats.getD (s.vars.getD k.toNat var0).lat.toNat lat0).shp.sh) (names_at hR h0 ‹k < s.vars.length›) (by have := hrl _ (List.mem_of_getElem? (getD_at (d := vr0) h0 (by omega))); omega); (try simp only [tx_size_app]); (try simp only [tsz1, tsz2]); omega)) <| A1 12 <| AO.new rfl gnone rfl hH31 (sP (sP (sQ sR))) (f := fun b => .slice (some ⟨b, 0, none⟩) 1 1) (run_mkL underlying54 rfl rfl (sz := 1) (vs := [.string _]) rfl rfl (by decide) (by decide) rfl rfl) <| fun b34 w32 hH33 => ?_
    (try simp only [clX] at hH33)
    refine A1 13 <| AO.app rfl gnone rfl hH33 (j := 3) rfl (fun _ => (sQ (sP (sP (sQ sR))))) (hH33.slBlk (i := 0) (n := 1) (sz := 1) rfl rfl (by decide)) rfl rfl underlying54 rfl rfl (size := 1) (bytes := 16) rfl rfl rfl (by decide) (by simp [Value.oneCell']) (by have := vars_len (s := s.sc) (a := a.as) h0; omega) (by have := vars_len (s := s.sc) (a := a.as) h0; simp only [maxLen]; omega) <| fun v37 w35 hH36 => ?_
    simp only [z2] at hH36
    refine AQ 14 rfl (hH36.sub (sQ (sP (sP (sQ sR))))) (run_assign (by conv => lhs; whnf)) ?_
    refine AD <| CW.exit (id := 1) rfl <| CW.region <| V (run_add e16_13 rfl (by omega)) <| mI rfl <| RL.nil <| ?_
    refine ⟨(k + 1, varsT s.sc a.as (k + 1), v37), ?_, fr13.u4.u4.u4.u4.u4.u4.u4.u4.u1.u1, (Hp.conv (hH36.sub (sQ (sQ (sQ sR)))) (by rw [vars_1 h0 ‹(s.vars.getD k.toNat var0).kind = 1›]; simp only [txL, List.map_append, List.map_cons, List.map_nil, List.length_append, List.length_singleton]; rfl)), rfl, (congrArg I (by rfl)), ?_, ?_, ?_⟩
    ·((try dsimp only); omega)
    ·omega
    ·omega
    ·rfl
   ·refine CW.skip <| CW.regionS (by kernel_rfl) hH25 (sP (sP (sQ sR))) <| fun w38 hH39 => have zh39 := hH39.sub (sP (sP (sQ sR))); AQ 0 rfl zh39 (run_move e5_13) <| AQ 1 rfl zh39 (fA underlying47 0 rfl sizeOf9 rfl) <| AT 2 rfl zh39 (fun w hS => run_ld underlying9 rfl rfl (hS.cell (i := 1) rfl (v := .string _) rfl)) <| AQ 3 rfl zh39 (run_addS rfl rfl (by have hnk := hvn _ (List.mem_of_getElem? (getD_at (d := var0) h0 ‹k < s.vars.length›)); have hss := spell_sz (s.lats.getD (s.vars.getD k.toNat var0).lat.toNat lat0).shp.sh (a.labels.getD k.toNat el0); have hrs := row_sz (s := (s.lats.getD (s.vars.getD k.toNat var0).lat.toNat lat0).shp.sh) (names_at hR h0 ‹k < s.vars.length›) (by have := hrl _ (List.mem_of_getElem? (getD_at (d := vr0) h0 (by omega))); omega); (try simp only [tx_size_app]); (try simp only [tsz1, tsz2]); omega)) <| AT 4 rfl zh39 (fun w hS => run_ldA (cs := [B _, _]) underlying42 rfl rfl rfl (rangeAt_cells (hS.blk (i := 0) rfl))) <| AQ 5 rfl zh39 (fA underlying29 1 rfl sizeOf27 e3_13) <| AT 6 rfl zh39 (fun w hS => run_ldV (ha.rows.sl.hp hS) underlying27 rfl rfl (hS.cell (i := 2) rfl rfl)) <| AQ 7 rfl zh39 (mV (I _) rfl) <| AT 8 rfl zh39 (fun w hS => run_indexAddrS (ha.rows.sl.hp hS) underlying27 sizeOf48 rfl rfl (by omega)) <| AT 9 rfl zh39 (fun w hS => run_ld underlying48 rfl rfl ((ha.rows.sl.hp hS).cell _ _ (rowsC_at (by omega)))) <| A1 10 <| AO.callP rfl gnone rfl hH39 (sP (sP (sQ sR))) (c_assign_row _ _ _ (names_at hR h0 ‹k < s.vars.length›) (by have := hrl _ (List.mem_of_getElem? (getD_at (d := vr0) h0 (by omega))); omega) _ ((ha.at (by omega) (by omega)).sl.hp hH39) ((hs.at (by have hok := ok_lat (right_at hR h0 ‹k < s.vars.length›); omega) (by have hok := ok_lat (right_at hR h0 ‹k < s.vars.length›); omega)).mono hH39.kw) (hT.hp hH39)) (run_call2 call34 rfl rfl) <| fun w40 hH41 => AQ 11 rfl (hH41.sub (sP (sP (sQ sR)))) (run_addS rfl rfl (by have hnk := hvn _ (List.mem_of_getElem? (getD_at (d := var0) h0 ‹k < s.vars.length›)); have hss := spell_sz (s.lats.getD (s.vars.getD k.toNat var0).lat.toNat lat0).shp.sh (a.labels.getD k.toNat el0); have hrs := row_sz (s := (s.lats.getD (s.vars.getD k.toNat var0).lat.toNat lat0).shp.sh) (names_at hR h0 ‹k < s.vars.length›) (by have := hrl _ (List.mem_of_getElem? (getD_at (d := vr0) h0 (by omega))); omega); (try simp only [tx_size_app]); (try simp only [tsz1, tsz2]); omega)) <| A1 12 <| AO.new rfl gnone rfl hH41 (sP (sP (sQ sR))) (f := fun b => .slice (some ⟨b, 0, none⟩) 1 1) (run_mkL underlying54 rfl rfl (sz := 1) (vs := [.string _]) rfl rfl (by decide) (by decide) rfl rfl) <| fun b44 w42 hH43 => ?_
    (try simp only [clX] at hH43)
    refine A1 13 <| AO.app rfl gnone rfl hH43 (j := 3) rfl (fun _ => (sQ (sP (sP (sQ sR))))) (hH43.slBlk (i := 0) (n := 1) (sz := 1) rfl rfl (by decide)) rfl rfl underlying54 rfl rfl (size := 1) (bytes := 16) rfl rfl rfl (by decide) (by simp [Value.oneCell']) (by have := vars_len (s := s.sc) (a := a.as) h0; omega) (by have := vars_len (s := s.sc) (a := a.as) h0; simp only [maxLen]; omega) <| fun v47 w45 hH46 => ?_
    simp only [z2] at hH46
    refine AQ 14 rfl (hH46.sub (sQ (sP (sP (sQ sR))))) (run_assign (by conv => lhs; whnf)) ?_
    refine AD <| CW.region <| V (run_add e16_13 rfl (by omega)) <| mI rfl <| RL.nil <| ?_
    refine ⟨(k + 1, varsT s.sc a.as (k + 1), v47), ?_, fr13.u4.u4.u4.u4.u4.u4.u4.u4.u1.u1, (Hp.conv (hH46.sub (sQ (sQ (sQ sR)))) (by rw [vars_2 h0 ‹¬ (s.vars.getD k.toNat var0).kind = 1›]; simp only [txL, List.map_append, List.map_cons, List.map_nil, List.length_append, List.length_singleton]; rfl)), rfl, (congrArg I (by rfl)), ?_, ?_, ?_⟩
    ·((try dsimp only); omega)
    ·omega
    ·omega
    ·rfl
  ·refine CW.exit (id := 0) rfl <| SR <| vm e5_13 <| RL.callP rfl hH13 (c_name_Join _ (varsT s.sc a.as k) (tc 32) (by rw [show k = s.vars.length by omega]; exact Nat.le_trans hvz (by decide)) _ (hH13.sl (i := 0) rfl)) (run_call2 call35 rfl (show _ = Value.string ⟨#[32]⟩ from rfl)) <| fun w48 hH49 => va (v := .string _) rfl <| RL.nil <| CW.ret <| outP1 Tryz.results14 ?_ hH49.below
   exact congrArg S (by rw [text_yes hR, show (s.vars.length : Int) = k by omega])
end Go.Proofs.YtieckcbckgalhaaGreatDoor.W
