/-
  The walks of the functions that the laws of this seat reach, part 2: each returns what its plain counterpart tells, and turns nothing that was there.
-/
import Derived.Test.YtgmdjomdmfcpnaaDoorProg
import Derived.Test.YtgmdjomdmfcpnaaDoorEnv
import Derived.Test.YtgmdjomdmfcpnaaDoorPlain
import Derived.Test.YtgmdjomdmfcpnaaDoorBase
import Derived.Test.YtgmdjomdmfcpnaaDoorOrd
import Derived.Test.YtgmdjomdmfcpnaaDoorRel
import Derived.Test.YtgmdjomdmfcpnaaDoorClo
import Derived.Test.YtgmdjomdmfcpnaaDoorCov
import Derived.Test.YtgmdjomdmfcpnaaDoorArr
import Derived.Test.YtgmdjomdmfcpnaaDoorHas
import Derived.Test.YtgmdjomdmfcpnaaDoorGrd
import Derived.Test.YtgmdjomdmfcpnaaDoorStr
import Derived.Test.YtgmdjomdmfcpnaaDoorVu
import Derived.Test.YtgmdjomdmfcpnaaDoorShp
import Derived.Test.YtgmdjomdmfcpnaaDoorShl
import Derived.Test.YtgmdjomdmfcpnaaDoorShq
import Derived.Test.YtgmdjomdmfcpnaaDoorShr
import Derived.Test.YtgmdjomdmfcpnaaDoorCut
import Derived.Test.YtgmdjomdmfcpnaaDoorPacesA
namespace Go.Proofs.YtgmdjomdmfcpnaaDoor.W
open Go Go.RowKit Go.Proofs.YtgmdjomdmfcpnaaDoor.E Go.Proofs.YtgmdjomdmfcpnaaDoor.M
set_option linter.unusedVariables false
set_option linter.unusedSimpArgs false
set_option maxRecDepth 100000

theorem c_shape_Right (s : Shp) (w : World) (hs : ShpV (Kw w) s) (hT : Tab w) : Calls Tryd.prog 11 #[.agg (shpC s)] w (Pure (B (shR s.sh)) w) := by
  have hsl := sh_len s
  have hm := hs.facs.sl.small
  unfold maxLen at hm
  refine enter Tryd.func11 rfl Tryd.ntmps11 rfl ?_
  have hH := Hp.start w
  refine CW.seq ?_
  refine CW.region ?_
  refine RL.new rfl hH (f := fun b => (.pointer (some ⟨b, 0, none⟩))) (run_box (v := .agg _) rfl) ?_
  intro b3 w1 hH2
  refine RL.val rfl (run_assign (v := B false) rfl) ?_
  refine RL.nil ?_
  refine CW.seq ?_
  refine CW.region ?_
  refine RL.val rfl (run_fieldAddr Tryd.underlying24 rfl (off := 1) rfl Tryd.sizeOf22 (by decide) rfl) ?_
  refine RL.val rfl (run_ld Tryd.underlying22 rfl rfl (hH2.cell (i := 0) rfl rfl)) ?_
  refine RL.val rfl (run_lenSl (hs.facs.sl.hp hH2) rfl Tryd.underlying22 rfl) ?_
  refine RL.val rfl (run_assign (v := I _) rfl) ?_
  refine RL.nil ?_
  refine CW.seq ?_
  refine CW.seq ?_
  refine CW.region ?_
  refine RL.val rfl (run_move (v := I _) rfl) ?_
  refine RL.val rfl (run_lss rfl rfl) ?_
  refine RL.val rfl (run_move (v := B _) rfl) ?_
  refine RL.splitP (dj := 11) rfl (fun h5 => ?_) (fun h5 => ?_)
  · refine RL.gF rfl rfl (bT h5) rfl ?_
    refine RL.gF rfl rfl (bT h5) rfl ?_
    refine RL.val rfl (run_pickT (bT h5) (v := B true) rfl) ?_
    refine RL.val rfl (run_move (v := B _) rfl) ?_
    refine RL.gF rfl rfl rfl rfl ?_
    refine RL.gF rfl rfl rfl rfl ?_
    refine RL.gF rfl rfl rfl rfl ?_
    refine RL.gF rfl rfl rfl rfl ?_
    refine RL.gU rfl rfl rfl ?_
    refine RL.gU rfl rfl rfl ?_
    refine RL.gF rfl rfl rfl rfl ?_
    refine RL.val rfl (run_pickT rfl (v := B true) rfl) ?_
    refine RL.nil ?_
    refine CW.condT rfl ?_
    refine CW.seq ?_
    refine CW.region ?_
    refine RL.val rfl (run_assign (v := B false) rfl) ?_
    refine RL.nil ?_
    refine CW.ret ?_
    refine outP1 Tryd.results11 (congrArg B ?_) hH2.below
    first | exact (shR_no3 (k := k) h0 (by omega) (by rw [sh_get]; exact nt ‹_›)).symm | exact (shR_yes (k := k) (by omega) hc2 (by omega) fun j a b => by rw [sh_get]; exact hg j a b).symm | exact (shR_no1 (by omega)).symm | exact (shR_no2 (by first | exact nt ‹_› | assumption) (by omega)).symm
  · refine RL.gT rfl (bF h5) ?_
    refine RL.val rfl (run_move (v := I _) rfl) ?_
    refine RL.gT rfl (bF h5) ?_
    refine RL.val rfl (run_gtr rfl rfl) ?_
    refine RL.val rfl (run_pickF (bF h5) (v := B _) rfl) ?_
    refine RL.val rfl (run_move (v := B _) rfl) ?_
    refine RL.splitP (dj := 15) rfl (fun h7 => ?_) (fun h7 => ?_)
    · refine RL.gF rfl rfl (bT h7) rfl ?_
      refine RL.gF rfl rfl (bT h7) rfl ?_
      refine RL.gF rfl rfl (bT h7) rfl ?_
      refine RL.gF rfl rfl (bT h7) rfl ?_
      refine RL.gU rfl rfl rfl ?_
      refine RL.gU rfl rfl rfl ?_
      refine RL.gF rfl rfl (bT h7) rfl ?_
      refine RL.val rfl (run_pickT (bT h7) (v := B true) rfl) ?_
      refine RL.nil ?_
      refine CW.condT rfl ?_
      refine CW.seq ?_
      refine CW.region ?_
      refine RL.val rfl (run_assign (v := B false) rfl) ?_
      refine RL.nil ?_
      refine CW.ret ?_
      refine outP1 Tryd.results11 (congrArg B ?_) hH2.below
      first | exact (shR_no3 (k := k) h0 (by omega) (by rw [sh_get]; exact nt ‹_›)).symm | exact (shR_yes (k := k) (by omega) hc2 (by omega) fun j a b => by rw [sh_get]; exact hg j a b).symm | exact (shR_no1 (by omega)).symm | exact (shR_no2 (by first | exact nt ‹_› | assumption) (by omega)).symm
    · refine RL.gT rfl (bF h7) ?_
      refine RL.val rfl (run_fieldAddr Tryd.underlying24 rfl (off := 0) rfl Tryd.sizeOf4 (by decide) rfl) ?_
      refine RL.gT rfl (bF h7) ?_
      refine RL.val rfl (run_ld Tryd.underlying4 rfl rfl (hH2.cell (i := 0) rfl (v := B _) rfl)) ?_
      refine RL.gT rfl (bF h7) ?_
      refine RL.val rfl (run_not rfl) ?_
      refine RL.gT rfl (bF h7) ?_
      refine RL.val rfl (run_move (v := B _) rfl) ?_
      refine RL.split (dj := 19) rfl (fun h10 => ?_) (fun h10 => ?_)
      · refine RL.gT rfl (bR (c := true) h10) ?_
        refine RL.val rfl (run_move (v := I _) rfl) ?_
        refine RL.gT rfl (bR (c := true) h10) ?_
        refine RL.val rfl (run_neq rfl rfl) ?_
        refine RL.gT rfl (bF h7) ?_
        refine RL.val rfl (run_pickT (bR (c := true) h10) (v := B _) rfl) ?_
        refine RL.val rfl (run_pickF (bF h7) (v := B _) rfl) ?_
        refine RL.nil ?_
        refine CW.condP rfl (fun h12 => ?_) (fun h12 => ?_)
        · refine CW.seq ?_
          refine CW.region ?_
          refine RL.val rfl (run_assign (v := B false) rfl) ?_
          refine RL.nil ?_
          refine CW.ret ?_
          refine outP1 Tryd.results11 (congrArg B ?_) hH2.below
          first | exact (shR_no3 (k := k) h0 (by omega) (by rw [sh_get]; exact nt ‹_›)).symm | exact (shR_yes (k := k) (by omega) hc2 (by omega) fun j a b => by rw [sh_get]; exact hg j a b).symm | exact (shR_no1 (by omega)).symm | exact (shR_no2 (by first | exact nt ‹_› | assumption) (by omega)).symm
        · refine CW.skip ?_
          refine CW.seq ?_
          refine CW.seq ?_
          refine CW.region ?_
          refine RL.val rfl (run_fieldAddr Tryd.underlying24 rfl (off := 1) rfl Tryd.sizeOf22 (by decide) rfl) ?_
          refine RL.val rfl (run_ld Tryd.underlying22 rfl rfl (hH2.cell (i := 0) rfl rfl)) ?_
          refine RL.val rfl (run_lenSl (hs.facs.sl.hp hH2) rfl Tryd.underlying22 rfl) ?_
          refine RL.val rfl (run_move (v := I 0) rfl) ?_
          refine RL.nil ?_
          refine CW.block ?_
          have hc2 : s.sh.tuple = true ∨ s.sh.facs.length = 1 := by first | exact .inl (nf ‹(!s.tuple) = false›) | exact .inl ‹s.tuple = true› | exact .inr (by omega)
          have hc1 : 1 ≤ s.facs.length ∧ s.facs.length ≤ 8 := by omega
          refine CW.loop (G := (Int)) (fun (k : Int) s' w' => (Fr [2, 5, 27, 28, 29, 30, 31, 32, 33, 34] _ s') ∧ (Hp w w' _) ∧ (s' 27 = I k) ∧ (0 ≤ k) ∧ (k ≤ s.facs.length) ∧ (∀ j : Int, 0 ≤ j → j < k → factorR (s.facs.getD j.toNat fac0).fc = true)) (fun (k : Int) => (s.facs.length - k).toNat) (0) ⟨Fr.refl _ _, hH2, rfl, (by omega), (by omega), fun j a b => absurd b (by omega)⟩ ?_
          rintro k sg13 w13 ⟨fr13, hH13, e27_13, h0, hk, hg⟩
          have e25_13 := (fr13 25 rfl).trans (by conv => lhs; whnf)
          have e26_13 : sg13 26 = I _ := (fr13 26 rfl).trans rfl
          refine CW.seq ?_
          refine CW.region ?_
          refine RL.val rfl (run_lss e27_13 e26_13) ?_
          refine RL.nil ?_
          refine CW.seq ?_
          refine CW.condP rfl (fun h15 => ?_) (fun h15 => ?_)
          · refine CW.skip ?_
            refine CW.seq ?_
            refine CW.block ?_
            refine CW.seq ?_
            refine CW.region ?_
            refine RL.val rfl (run_indexAddrS (hs.facs.sl.hp hH13) Tryd.underlying22 Tryd.sizeOf36 e25_13 e27_13 (by omega)) ?_
            refine RL.val rfl (run_ldE (dv := fac0) facL_len (hs.facs.sl.hp hH13) Tryd.underlying36 rfl rfl rfl (by omega)) ?_
            refine RL.new rfl hH13 (f := fun b => (.pointer (some ⟨b, 0, none⟩))) (run_alloc zero_fac) ?_
            intro b18 w16 hH17
            refine RL.set hH17 (i := 0) rfl (run_stFac (hs.at (by omega) (by omega)) rfl rfl rfl (hH17.blk (i := 0) rfl)) ?_
            intro w19 hH20
            simp only [List.set_cons_zero, List.set_cons_succ] at hH20
            refine RL.nil ?_
            refine CW.seq ?_
            refine CW.region ?_
            refine RL.val rfl (run_ldFac Tryd.underlying36 rfl rfl rfl (hH20.blk (i := 0) rfl)) ?_
            refine RL.callP rfl hH20 (c_shape_factor _  _ ((hs.at (by omega) (by omega)).mono hH20.kw) (hT.hp hH20)) (run_call1 Tryd.call22 rfl) ?_
            intro w21 hH22
            refine RL.val rfl (run_not rfl) ?_
            refine RL.nil ?_
            refine CW.cond rfl (fun h25 => ?_) (fun h25 => ?_)
            · refine CW.seq ?_
              refine CW.region ?_
              refine RL.val rfl (run_assign (v := B false) rfl) ?_
              refine RL.nil ?_
              refine CW.ret ?_
              refine outP1 Tryd.results11 (congrArg B ?_) hH22.below
              first | exact (shR_no3 (k := k) h0 (by omega) (by rw [sh_get]; exact nt ‹_›)).symm | exact (shR_yes (k := k) (by omega) hc2 (by omega) fun j a b => by rw [sh_get]; exact hg j a b).symm | exact (shR_no1 (by omega)).symm | exact (shR_no2 (by first | exact nt ‹_› | assumption) (by omega)).symm
            · refine CW.skip ?_
              refine CW.region ?_
              refine RL.val rfl (run_add e27_13 rfl (by omega)) ?_
              refine RL.val rfl (run_move (v := I _) rfl) ?_
              refine RL.nil ?_
              refine ⟨k + 1, ?_, ((((((((fr13.u rfl).u rfl).u rfl).u rfl).u rfl).u rfl).u rfl).u rfl).u rfl, (hH22.sub (.cons _ (List.Sublist.refl _))), (congrArg I (by first | rfl | omega)), ?_, ?_, ?_⟩
              · ((try dsimp only); omega)
              · omega
              · omega
              · exact fun j a b => if e : j = k then e ▸ nf ‹_› else hg j a (by omega)
          · refine CW.exit (id := 0) rfl ?_
            refine CW.seq ?_
            refine CW.region ?_
            refine RL.val rfl (run_assign (v := B true) rfl) ?_
            refine RL.nil ?_
            refine CW.ret ?_
            refine outP1 Tryd.results11 (congrArg B ?_) hH13.below
            first | exact (shR_no3 (k := k) h0 (by omega) (by rw [sh_get]; exact nt ‹_›)).symm | exact (shR_yes (k := k) (by omega) hc2 (by omega) fun j a b => by rw [sh_get]; exact hg j a b).symm | exact (shR_no1 (by omega)).symm | exact (shR_no2 (by first | exact nt ‹_› | assumption) (by omega)).symm
      · refine RL.gF rfl rfl (bR (c := false) h10) rfl ?_
        refine RL.gF rfl rfl (bR (c := false) h10) rfl ?_
        refine RL.gT rfl (bF h7) ?_
        refine RL.val rfl (run_pickF (bR (c := false) h10) (v := B false) rfl) ?_
        refine RL.val rfl (run_pickF (bF h7) (v := B _) rfl) ?_
        refine RL.nil ?_
        refine CW.condF rfl ?_
        refine CW.skip ?_
        refine CW.seq ?_
        refine CW.seq ?_
        refine CW.region ?_
        refine RL.val rfl (run_fieldAddr Tryd.underlying24 rfl (off := 1) rfl Tryd.sizeOf22 (by decide) rfl) ?_
        refine RL.val rfl (run_ld Tryd.underlying22 rfl rfl (hH2.cell (i := 0) rfl rfl)) ?_
        refine RL.val rfl (run_lenSl (hs.facs.sl.hp hH2) rfl Tryd.underlying22 rfl) ?_
        refine RL.val rfl (run_move (v := I 0) rfl) ?_
        refine RL.nil ?_
        refine CW.block ?_
        have hc2 : s.sh.tuple = true ∨ s.sh.facs.length = 1 := by first | exact .inl (nf ‹(!s.tuple) = false›) | exact .inl ‹s.tuple = true› | exact .inr (by omega)
        have hc1 : 1 ≤ s.facs.length ∧ s.facs.length ≤ 8 := by omega
        refine CW.loop (G := (Int)) (fun (k : Int) s' w' => (Fr [2, 5, 27, 28, 29, 30, 31, 32, 33, 34] _ s') ∧ (Hp w w' _) ∧ (s' 27 = I k) ∧ (0 ≤ k) ∧ (k ≤ s.facs.length) ∧ (∀ j : Int, 0 ≤ j → j < k → factorR (s.facs.getD j.toNat fac0).fc = true)) (fun (k : Int) => (s.facs.length - k).toNat) (0) ⟨Fr.refl _ _, hH2, rfl, (by omega), (by omega), fun j a b => absurd b (by omega)⟩ ?_
        rintro k sg26 w26 ⟨fr26, hH26, e27_26, h0, hk, hg⟩
        have e25_26 := (fr26 25 rfl).trans (by conv => lhs; whnf)
        have e26_26 : sg26 26 = I _ := (fr26 26 rfl).trans rfl
        refine CW.seq ?_
        refine CW.region ?_
        refine RL.val rfl (run_lss e27_26 e26_26) ?_
        refine RL.nil ?_
        refine CW.seq ?_
        refine CW.condP rfl (fun h28 => ?_) (fun h28 => ?_)
        · refine CW.skip ?_
          refine CW.seq ?_
          refine CW.block ?_
          refine CW.seq ?_
          refine CW.region ?_
          refine RL.val rfl (run_indexAddrS (hs.facs.sl.hp hH26) Tryd.underlying22 Tryd.sizeOf36 e25_26 e27_26 (by omega)) ?_
          refine RL.val rfl (run_ldE (dv := fac0) facL_len (hs.facs.sl.hp hH26) Tryd.underlying36 rfl rfl rfl (by omega)) ?_
          refine RL.new rfl hH26 (f := fun b => (.pointer (some ⟨b, 0, none⟩))) (run_alloc zero_fac) ?_
          intro b31 w29 hH30
          refine RL.set hH30 (i := 0) rfl (run_stFac (hs.at (by omega) (by omega)) rfl rfl rfl (hH30.blk (i := 0) rfl)) ?_
          intro w32 hH33
          simp only [List.set_cons_zero, List.set_cons_succ] at hH33
          refine RL.nil ?_
          refine CW.seq ?_
          refine CW.region ?_
          refine RL.val rfl (run_ldFac Tryd.underlying36 rfl rfl rfl (hH33.blk (i := 0) rfl)) ?_
          refine RL.callP rfl hH33 (c_shape_factor _  _ ((hs.at (by omega) (by omega)).mono hH33.kw) (hT.hp hH33)) (run_call1 Tryd.call22 rfl) ?_
          intro w34 hH35
          refine RL.val rfl (run_not rfl) ?_
          refine RL.nil ?_
          refine CW.cond rfl (fun h38 => ?_) (fun h38 => ?_)
          · refine CW.seq ?_
            refine CW.region ?_
            refine RL.val rfl (run_assign (v := B false) rfl) ?_
            refine RL.nil ?_
            refine CW.ret ?_
            refine outP1 Tryd.results11 (congrArg B ?_) hH35.below
            first | exact (shR_no3 (k := k) h0 (by omega) (by rw [sh_get]; exact nt ‹_›)).symm | exact (shR_yes (k := k) (by omega) hc2 (by omega) fun j a b => by rw [sh_get]; exact hg j a b).symm | exact (shR_no1 (by omega)).symm | exact (shR_no2 (by first | exact nt ‹_› | assumption) (by omega)).symm
          · refine CW.skip ?_
            refine CW.region ?_
            refine RL.val rfl (run_add e27_26 rfl (by omega)) ?_
            refine RL.val rfl (run_move (v := I _) rfl) ?_
            refine RL.nil ?_
            refine ⟨k + 1, ?_, ((((((((fr26.u rfl).u rfl).u rfl).u rfl).u rfl).u rfl).u rfl).u rfl).u rfl, (hH35.sub (.cons _ (List.Sublist.refl _))), (congrArg I (by first | rfl | omega)), ?_, ?_, ?_⟩
            · ((try dsimp only); omega)
            · omega
            · omega
            · exact fun j a b => if e : j = k then e ▸ nf ‹_› else hg j a (by omega)
        · refine CW.exit (id := 0) rfl ?_
          refine CW.seq ?_
          refine CW.region ?_
          refine RL.val rfl (run_assign (v := B true) rfl) ?_
          refine RL.nil ?_
          refine CW.ret ?_
          refine outP1 Tryd.results11 (congrArg B ?_) hH26.below
          first | exact (shR_no3 (k := k) h0 (by omega) (by rw [sh_get]; exact nt ‹_›)).symm | exact (shR_yes (k := k) (by omega) hc2 (by omega) fun j a b => by rw [sh_get]; exact hg j a b).symm | exact (shR_no1 (by omega)).symm | exact (shR_no2 (by first | exact nt ‹_› | assumption) (by omega)).symm

theorem c_clearanceref07_Same (a b : Shp) (w : World) (ha : ShpV (Kw w) a) (hb : ShpV (Kw w) b) : Calls Tryd.prog 8 #[.agg (shpC a), .agg (shpC b)] w (Pure (B (sameS a.sh b.sh)) w) := by
  have hla := sh_len a
  have hlb := sh_len b
  have hm := ha.facs.sl.small
  have hm2 := hb.facs.sl.small
  unfold maxLen at hm hm2
  refine enter Tryd.func8 rfl Tryd.ntmps8 rfl ?_
  have hH := Hp.start w
  refine CW.seq ?_
  refine CW.region ?_
  refine RL.new rfl hH (f := fun b => (.pointer (some ⟨b, 0, none⟩))) (run_box (v := .agg _) rfl) ?_
  intro b3 w1 hH2
  refine RL.new rfl hH2 (f := fun b => (.pointer (some ⟨b, 0, none⟩))) (run_box (v := .agg _) rfl) ?_
  intro b6 w4 hH5
  refine RL.val rfl (run_assign (v := B false) rfl) ?_
  refine RL.nil ?_
  refine CW.seq ?_
  refine CW.seq ?_
  refine CW.region ?_
  refine RL.val rfl (run_fieldAddr Tryd.underlying24 rfl (off := 0) rfl Tryd.sizeOf4 (by decide) rfl) ?_
  refine RL.val rfl (run_ld Tryd.underlying4 rfl rfl (hH5.cell (i := 1) rfl (v := B _) rfl)) ?_
  refine RL.val rfl (run_fieldAddr Tryd.underlying24 rfl (off := 0) rfl Tryd.sizeOf4 (by decide) rfl) ?_
  refine RL.val rfl (run_ld Tryd.underlying4 rfl rfl (hH5.cell (i := 0) rfl (v := B _) rfl)) ?_
  refine RL.val rfl (run_neqB Tryd.underlying4 rfl rfl) ?_
  refine RL.val rfl (run_move (v := B _) rfl) ?_
  refine RL.split (dj := 13) rfl (fun h10 => ?_) (fun h10 => ?_)
  · refine RL.gF rfl rfl (bR (c := true) h10) rfl ?_
    refine RL.gF rfl rfl (bR (c := true) h10) rfl ?_
    refine RL.gF rfl rfl (bR (c := true) h10) rfl ?_
    refine RL.gF rfl rfl (bR (c := true) h10) rfl ?_
    refine RL.gF rfl rfl (bR (c := true) h10) rfl ?_
    refine RL.gF rfl rfl (bR (c := true) h10) rfl ?_
    refine RL.gF rfl rfl (bR (c := true) h10) rfl ?_
    refine RL.val rfl (run_pickT (bR (c := true) h10) (v := B true) rfl) ?_
    refine RL.nil ?_
    refine CW.condT rfl ?_
    refine CW.seq ?_
    refine CW.region ?_
    refine RL.val rfl (run_assign (v := B false) rfl) ?_
    refine RL.nil ?_
    refine CW.ret ?_
    refine outP1 Tryd.results8 (congrArg B ?_) hH5.below
    first | exact (sameS_no3 (k := k) h0 (by omega) (by rw [sh_get, sh_get]; first | exact nt ‹_› | exact alike_no1 (show ¬ (a.facs.getD k.toNat fac0).kind = (b.facs.getD k.toNat fac0).kind from ‹_›) | exact alike_no2 (show ¬ (a.facs.getD k.toNat fac0).names = (b.facs.getD k.toNat fac0).names from ‹_›) | exact alike_no3 (show ¬ (plainR (a.facs.getD k.toNat fac0).rel).eq (plainR (b.facs.getD k.toNat fac0).rel) from ‹_›))).symm | exact (sameS_yes (k := k) htu (by omega) (by omega) fun j u v => by rw [sh_get, sh_get]; exact hg j u v).symm | exact (sameS_no1 (show ¬ a.tuple = b.tuple by simpa using ‹(!(a.tuple == b.tuple)) = true›)).symm | exact (sameS_no2 (by omega)).symm
  · refine RL.gT rfl (bR (c := false) h10) ?_
    refine RL.val rfl (run_fieldAddr Tryd.underlying24 rfl (off := 1) rfl Tryd.sizeOf22 (by decide) rfl) ?_
    refine RL.gT rfl (bR (c := false) h10) ?_
    refine RL.val rfl (run_ld Tryd.underlying22 rfl rfl (hH5.cell (i := 1) rfl rfl)) ?_
    refine RL.gT rfl (bR (c := false) h10) ?_
    refine RL.val rfl (run_lenSl (ha.facs.sl.hp hH5) rfl Tryd.underlying22 rfl) ?_
    refine RL.gT rfl (bR (c := false) h10) ?_
    refine RL.val rfl (run_fieldAddr Tryd.underlying24 rfl (off := 1) rfl Tryd.sizeOf22 (by decide) rfl) ?_
    refine RL.gT rfl (bR (c := false) h10) ?_
    refine RL.val rfl (run_ld Tryd.underlying22 rfl rfl (hH5.cell (i := 0) rfl rfl)) ?_
    refine RL.gT rfl (bR (c := false) h10) ?_
    refine RL.val rfl (run_lenSl (hb.facs.sl.hp hH5) rfl Tryd.underlying22 rfl) ?_
    refine RL.gT rfl (bR (c := false) h10) ?_
    refine RL.val rfl (run_neq rfl rfl) ?_
    refine RL.val rfl (run_pickF (bR (c := false) h10) (v := B _) rfl) ?_
    refine RL.nil ?_
    refine CW.condP rfl (fun h12 => ?_) (fun h12 => ?_)
    · refine CW.seq ?_
      refine CW.region ?_
      refine RL.val rfl (run_assign (v := B false) rfl) ?_
      refine RL.nil ?_
      refine CW.ret ?_
      refine outP1 Tryd.results8 (congrArg B ?_) hH5.below
      first | exact (sameS_no3 (k := k) h0 (by omega) (by rw [sh_get, sh_get]; first | exact nt ‹_› | exact alike_no1 (show ¬ (a.facs.getD k.toNat fac0).kind = (b.facs.getD k.toNat fac0).kind from ‹_›) | exact alike_no2 (show ¬ (a.facs.getD k.toNat fac0).names = (b.facs.getD k.toNat fac0).names from ‹_›) | exact alike_no3 (show ¬ (plainR (a.facs.getD k.toNat fac0).rel).eq (plainR (b.facs.getD k.toNat fac0).rel) from ‹_›))).symm | exact (sameS_yes (k := k) htu (by omega) (by omega) fun j u v => by rw [sh_get, sh_get]; exact hg j u v).symm | exact (sameS_no1 (show ¬ a.tuple = b.tuple by simpa using ‹(!(a.tuple == b.tuple)) = true›)).symm | exact (sameS_no2 (by omega)).symm
    · refine CW.skip ?_
      refine CW.seq ?_
      refine CW.seq ?_
      refine CW.region ?_
      refine RL.val rfl (run_assign (v := I 0) rfl) ?_
      refine RL.nil ?_
      refine CW.block ?_
      have hlab : a.facs.length = b.facs.length := by omega
      have htu : a.tuple = b.tuple := by simpa using ‹(!(a.tuple == b.tuple)) = false›
      refine CW.loop (G := (Int)) (fun (k : Int) s' w' => (Fr [4, 5, 6, 7, 22, 23, 24, 25, 26, 27, 28, 29, 30, 31, 32, 33, 34, 35, 36, 37, 38, 39, 40, 41, 42, 43, 44, 45, 46, 47, 48, 49, 50, 51, 52, 53, 54, 55, 56, 57, 58, 59] _ s') ∧ (Hp w w' _) ∧ (s' 5 = I k) ∧ (0 ≤ k) ∧ (k ≤ a.facs.length) ∧ (∀ j : Int, 0 ≤ j → j < k → alikeF (a.facs.getD j.toNat fac0).fc (b.facs.getD j.toNat fac0).fc = true)) (fun (k : Int) => (a.facs.length - k).toNat) (0) ⟨Fr.refl _ _, hH5, rfl, (by omega), (by omega), fun j a b => absurd b (by omega)⟩ ?_
      rintro k sg13 w13 ⟨fr13, hH13, e5_13, h0, hk, hg⟩
      have e2_13 : sg13 2 = .pointer (some ⟨_, _, none⟩) := (fr13 2 rfl).trans rfl
      have e3_13 : sg13 3 = .pointer (some ⟨_, _, none⟩) := (fr13 3 rfl).trans rfl
      refine CW.seq ?_
      refine CW.seq ?_
      refine CW.region ?_
      refine RL.val rfl (run_move e5_13) ?_
      refine RL.val rfl (run_fieldAddr Tryd.underlying24 rfl (off := 1) rfl Tryd.sizeOf22 (by decide) e2_13) ?_
      refine RL.val rfl (run_ld Tryd.underlying22 rfl rfl (hH13.cell (i := 1) rfl rfl)) ?_
      refine RL.val rfl (run_lenSl (ha.facs.sl.hp hH13) rfl Tryd.underlying22 rfl) ?_
      refine RL.val rfl (run_lss rfl rfl) ?_
      refine RL.nil ?_
      refine CW.condP rfl (fun h15 => ?_) (fun h15 => ?_)
      · refine CW.skip ?_
        refine CW.seq ?_
        refine CW.block ?_
        refine CW.seq ?_
        refine CW.regionD (by kernel_rfl) hH13 ?_
        intro w16 hH17
        refine AN.take 0 rfl rfl (by kernel_rfl) (by kernel_rfl) (by kernel_rfl) (hH17.sub (List.Sublist.refl _)) (fun w hS => run_fieldAddr Tryd.underlying24 rfl (off := 1) rfl Tryd.sizeOf22 (by decide) e2_13) ?_
        refine AN.take 1 rfl rfl (by kernel_rfl) (by kernel_rfl) (by kernel_rfl) (hH17.sub (List.Sublist.refl _)) (fun w hS => run_ld Tryd.underlying22 rfl rfl (hS.cell (i := 1) rfl rfl)) ?_
        refine AN.take 2 rfl rfl (by kernel_rfl) (by kernel_rfl) (by kernel_rfl) (hH17.sub (List.Sublist.refl _)) (fun w hS => run_move e5_13) ?_
        refine AN.take 3 rfl rfl (by kernel_rfl) (by kernel_rfl) (by kernel_rfl) (hH17.sub (List.Sublist.refl _)) (fun w hS => run_indexAddrS (ha.facs.sl.hp hS) Tryd.underlying22 Tryd.sizeOf36 rfl rfl (by omega)) ?_
        refine AN.take 4 rfl rfl (by kernel_rfl) (by kernel_rfl) (by kernel_rfl) (hH17.sub (List.Sublist.refl _)) (fun w hS => run_ldE (dv := fac0) facL_len (ha.facs.sl.hp hS) Tryd.underlying36 rfl rfl rfl (by omega)) ?_
        refine AN.take 5 rfl rfl (by kernel_rfl) (by kernel_rfl) (by kernel_rfl) (hH17.sub (List.Sublist.refl _)) (fun w hS => run_fieldAddr Tryd.underlying24 rfl (off := 1) rfl Tryd.sizeOf22 (by decide) e3_13) ?_
        refine AN.take 6 rfl rfl (by kernel_rfl) (by kernel_rfl) (by kernel_rfl) (hH17.sub (List.Sublist.refl _)) (fun w hS => run_ld Tryd.underlying22 rfl rfl (hS.cell (i := 0) rfl rfl)) ?_
        refine AN.take 7 rfl rfl (by kernel_rfl) (by kernel_rfl) (by kernel_rfl) (hH17.sub (List.Sublist.refl _)) (fun w hS => run_move e5_13) ?_
        refine AN.take 8 rfl rfl (by kernel_rfl) (by kernel_rfl) (by kernel_rfl) (hH17.sub (List.Sublist.refl _)) (fun w hS => run_indexAddrS (hb.facs.sl.hp hS) Tryd.underlying22 Tryd.sizeOf36 rfl rfl (by omega)) ?_
        refine AN.take 9 rfl rfl (by kernel_rfl) (by kernel_rfl) (by kernel_rfl) (hH17.sub (List.Sublist.refl _)) (fun w hS => run_ldE (dv := fac0) facL_len (hb.facs.sl.hp hS) Tryd.underlying36 rfl rfl rfl (by omega)) ?_
        refine AN.two 10 11 (by kernel_rfl) ?_ ?_
        · refine AO.new rfl gnone rfl hH17 (List.Sublist.refl _) (f := fun b => .pointer (some ⟨b, 0, none⟩)) (run_alloc zero_fac) ?_
          intro b20 w18 hH19
          refine AN.one 11 (by kernel_rfl) ?_
          refine AO.new rfl gnone rfl hH19 (.cons _ (List.Sublist.refl _)) (f := fun b => .pointer (some ⟨b, 0, none⟩)) (run_alloc zero_fac) ?_
          intro b23 w21 hH22
          refine AN.one 12 (by kernel_rfl) ?_
          refine AO.set rfl gnone hH22 (j := 1) rfl (.cons _ (.cons _ (List.Sublist.refl _))) (run_stFac (ha.at (by omega) (by omega)) rfl rfl rfl (hH22.blk (i := 1) rfl)) ?_
          intro w26 hH27
          simp only [List.set_cons_zero, List.set_cons_succ] at hH27
          refine AN.one 13 (by kernel_rfl) ?_
          refine AO.set rfl gnone hH27 (j := 0) rfl (.cons _ (.cons _ (List.Sublist.refl _))) (run_stFac (hb.at (by omega) (by omega)) rfl rfl rfl (hH27.blk (i := 0) rfl)) ?_
          intro w30 hH31
          simp only [List.set_cons_zero, List.set_cons_succ] at hH31
          refine AN.done (by kernel_rfl) ?_
          refine CW.seq ?_
          refine CW.region ?_
          refine RL.val rfl (run_fieldAddr Tryd.underlying36 rfl (off := 0) rfl Tryd.sizeOf3 (by decide) rfl) ?_
          refine RL.val rfl (run_ld Tryd.underlying3 rfl rfl (hH31.cell (i := 1) rfl (v := I _) rfl)) ?_
          refine RL.val rfl (run_fieldAddr Tryd.underlying36 rfl (off := 0) rfl Tryd.sizeOf3 (by decide) rfl) ?_
          refine RL.val rfl (run_ld Tryd.underlying3 rfl rfl (hH31.cell (i := 0) rfl (v := I _) rfl)) ?_
          refine RL.val rfl (run_neq rfl rfl) ?_
          refine RL.val rfl (run_move (v := B _) rfl) ?_
          refine RL.splitP (dj := 44) rfl (fun h33 => ?_) (fun h33 => ?_)
          · refine RL.gF rfl rfl (bT h33) rfl ?_
            refine RL.gF rfl rfl (bT h33) rfl ?_
            refine RL.gF rfl rfl (bT h33) rfl ?_
            refine RL.gF rfl rfl (bT h33) rfl ?_
            refine RL.gF rfl rfl (bT h33) rfl ?_
            refine RL.gF rfl rfl (bT h33) rfl ?_
            refine RL.val rfl (run_pickT (bT h33) (v := B true) rfl) ?_
            refine RL.val rfl (run_move (v := B _) rfl) ?_
            refine RL.gF rfl rfl rfl rfl ?_
            refine RL.gF rfl rfl rfl rfl ?_
            refine RL.gF rfl rfl rfl rfl ?_
            refine RL.gF rfl rfl rfl rfl ?_
            refine RL.gF rfl rfl rfl rfl ?_
            refine RL.gF rfl rfl rfl rfl ?_
            refine RL.val rfl (run_pickT rfl (v := B true) rfl) ?_
            refine RL.nil ?_
            refine CW.condT rfl ?_
            refine CW.seq ?_
            refine CW.region ?_
            refine RL.val rfl (run_assign (v := B false) rfl) ?_
            refine RL.nil ?_
            refine CW.ret ?_
            refine outP1 Tryd.results8 (congrArg B ?_) hH31.below
            first | exact (sameS_no3 (k := k) h0 (by omega) (by rw [sh_get, sh_get]; first | exact nt ‹_› | exact alike_no1 (show ¬ (a.facs.getD k.toNat fac0).kind = (b.facs.getD k.toNat fac0).kind from ‹_›) | exact alike_no2 (show ¬ (a.facs.getD k.toNat fac0).names = (b.facs.getD k.toNat fac0).names from ‹_›) | exact alike_no3 (show ¬ (plainR (a.facs.getD k.toNat fac0).rel).eq (plainR (b.facs.getD k.toNat fac0).rel) from ‹_›))).symm | exact (sameS_yes (k := k) htu (by omega) (by omega) fun j u v => by rw [sh_get, sh_get]; exact hg j u v).symm | exact (sameS_no1 (show ¬ a.tuple = b.tuple by simpa using ‹(!(a.tuple == b.tuple)) = true›)).symm | exact (sameS_no2 (by omega)).symm
          · refine RL.gT rfl (bF h33) ?_
            refine RL.val rfl (run_fieldAddr Tryd.underlying36 rfl (off := 1) rfl Tryd.sizeOf30 (by decide) rfl) ?_
            refine RL.gT rfl (bF h33) ?_
            refine RL.val rfl (run_ld Tryd.underlying30 rfl rfl (hH31.cell (i := 1) rfl rfl)) ?_
            refine RL.gT rfl (bF h33) ?_
            refine RL.val rfl (run_fieldAddr Tryd.underlying36 rfl (off := 1) rfl Tryd.sizeOf30 (by decide) rfl) ?_
            refine RL.gT rfl (bF h33) ?_
            refine RL.val rfl (run_ld Tryd.underlying30 rfl rfl (hH31.cell (i := 0) rfl rfl)) ?_
            refine RL.gT rfl (bF h33) ?_
            refine RL.callP rfl hH31 (c_clearanceref02_Same _ _ _ _  _ ((ha.at (by omega) (by omega)).names.sl.hp hH31) ((hb.at (by omega) (by omega)).names.sl.hp hH31)) (run_call2 Tryd.call19 rfl rfl) ?_
            intro w34 hH35
            refine RL.gT rfl (bF h33) ?_
            refine RL.val rfl (run_notP rfl) ?_
            refine RL.val rfl (run_pickF (bF h33) (v := B _) rfl) ?_
            refine RL.val rfl (run_move (v := B _) rfl) ?_
            refine RL.splitP (dj := 52) rfl (fun h39 => ?_) (fun h39 => ?_)
            · refine RL.gF rfl rfl (bT h39) rfl ?_
              refine RL.gF rfl rfl (bT h39) rfl ?_
              refine RL.gF rfl rfl (bT h39) rfl ?_
              refine RL.gF rfl rfl (bT h39) rfl ?_
              refine RL.gF rfl rfl (bT h39) rfl ?_
              refine RL.gF rfl rfl (bT h39) rfl ?_
              refine RL.val rfl (run_pickT (bT h39) (v := B true) rfl) ?_
              refine RL.nil ?_
              refine CW.condT rfl ?_
              refine CW.seq ?_
              refine CW.region ?_
              refine RL.val rfl (run_assign (v := B false) rfl) ?_
              refine RL.nil ?_
              refine CW.ret ?_
              refine outP1 Tryd.results8 (congrArg B ?_) hH35.below
              first | exact (sameS_no3 (k := k) h0 (by omega) (by rw [sh_get, sh_get]; first | exact nt ‹_› | exact alike_no1 (show ¬ (a.facs.getD k.toNat fac0).kind = (b.facs.getD k.toNat fac0).kind from ‹_›) | exact alike_no2 (show ¬ (a.facs.getD k.toNat fac0).names = (b.facs.getD k.toNat fac0).names from ‹_›) | exact alike_no3 (show ¬ (plainR (a.facs.getD k.toNat fac0).rel).eq (plainR (b.facs.getD k.toNat fac0).rel) from ‹_›))).symm | exact (sameS_yes (k := k) htu (by omega) (by omega) fun j u v => by rw [sh_get, sh_get]; exact hg j u v).symm | exact (sameS_no1 (show ¬ a.tuple = b.tuple by simpa using ‹(!(a.tuple == b.tuple)) = true›)).symm | exact (sameS_no2 (by omega)).symm
            · refine RL.gT rfl (bF h39) ?_
              refine RL.val rfl (run_fieldAddr Tryd.underlying36 rfl (off := 2) rfl Tryd.sizeOf34 (by decide) rfl) ?_
              refine RL.gT rfl (bF h39) ?_
              refine RL.val rfl (run_ldBR Tryd.underlying34 rfl rfl rfl (hH35.blk (i := 1) rfl)) ?_
              refine RL.gT rfl (bF h39) ?_
              refine RL.val rfl (run_fieldAddr Tryd.underlying36 rfl (off := 2) rfl Tryd.sizeOf34 (by decide) rfl) ?_
              refine RL.gT rfl (bF h39) ?_
              refine RL.val rfl (run_ldBR Tryd.underlying34 rfl rfl rfl (hH35.blk (i := 0) rfl)) ?_
              refine RL.gT rfl (bF h39) ?_
              refine RL.callP rfl hH35 (c_clearanceref03_Same _ _  _) (run_call2 Tryd.call20 rfl rfl) ?_
              intro w40 hH41
              refine RL.gT rfl (bF h39) ?_
              refine RL.val rfl (run_notP rfl) ?_
              refine RL.val rfl (run_pickF (bF h39) (v := B _) rfl) ?_
              refine RL.nil ?_
              refine CW.condP rfl (fun h45 => ?_) (fun h45 => ?_)
              · refine CW.seq ?_
                refine CW.region ?_
                refine RL.val rfl (run_assign (v := B false) rfl) ?_
                refine RL.nil ?_
                refine CW.ret ?_
                refine outP1 Tryd.results8 (congrArg B ?_) hH41.below
                first | exact (sameS_no3 (k := k) h0 (by omega) (by rw [sh_get, sh_get]; first | exact nt ‹_› | exact alike_no1 (show ¬ (a.facs.getD k.toNat fac0).kind = (b.facs.getD k.toNat fac0).kind from ‹_›) | exact alike_no2 (show ¬ (a.facs.getD k.toNat fac0).names = (b.facs.getD k.toNat fac0).names from ‹_›) | exact alike_no3 (show ¬ (plainR (a.facs.getD k.toNat fac0).rel).eq (plainR (b.facs.getD k.toNat fac0).rel) from ‹_›))).symm | exact (sameS_yes (k := k) htu (by omega) (by omega) fun j u v => by rw [sh_get, sh_get]; exact hg j u v).symm | exact (sameS_no1 (show ¬ a.tuple = b.tuple by simpa using ‹(!(a.tuple == b.tuple)) = true›)).symm | exact (sameS_no2 (by omega)).symm
              · refine CW.skip ?_
                refine CW.region ?_
                refine RL.val rfl (run_move e5_13) ?_
                refine RL.val rfl (run_add rfl rfl (by omega)) ?_
                refine RL.val rfl (run_assign (v := I _) rfl) ?_
                refine RL.nil ?_
                refine ⟨k + 1, ?_, ((((((((((((((((((((((((((((((((((((((((fr13.u rfl).u rfl).u rfl).u rfl).u rfl).u rfl).u rfl).u rfl).u rfl).u rfl).u rfl).u rfl).u rfl).u rfl).u rfl).u rfl).u rfl).u rfl).u rfl).u rfl).u rfl).u rfl).u rfl).u rfl).u rfl).u rfl).u rfl).u rfl).u rfl).u rfl).u rfl).u rfl).u rfl).u rfl).u rfl).u rfl).u rfl).u rfl).u rfl).u rfl).u rfl, (hH41.sub (.cons _ (.cons _ (List.Sublist.refl _)))), (congrArg I (by first | rfl | omega)), ?_, ?_, ?_⟩
                · ((try dsimp only); omega)
                · omega
                · omega
                · exact fun j u v => if e : j = k then e ▸ (by first | exact nf ‹_› | exact alike_all (a := (a.facs.getD k.toNat fac0).fc) (b := (b.facs.getD k.toNat fac0).fc) (show (a.facs.getD k.toNat fac0).kind = (b.facs.getD k.toNat fac0).kind by omega) (Decidable.of_not_not ‹¬ ¬ (a.facs.getD k.toNat fac0).names = (b.facs.getD k.toNat fac0).names›) (Decidable.of_not_not ‹¬ ¬ (plainR _).eq (plainR _)›)) else hg j u (by omega)
        · refine AO.new rfl gnone rfl hH17 (List.Sublist.refl _) (f := fun b => .pointer (some ⟨b, 0, none⟩)) (run_alloc zero_fac) ?_
          intro b48 w46 hH47
          refine AN.one 10 (by kernel_rfl) ?_
          refine AO.new rfl gnone rfl hH47 (.cons _ (List.Sublist.refl _)) (f := fun b => .pointer (some ⟨b, 0, none⟩)) (run_alloc zero_fac) ?_
          intro b51 w49 hH50
          refine AN.one 12 (by kernel_rfl) ?_
          refine AO.set rfl gnone hH50 (j := 0) rfl (.cons _ (.cons _ (List.Sublist.refl _))) (run_stFac (ha.at (by omega) (by omega)) rfl rfl rfl (hH50.blk (i := 0) rfl)) ?_
          intro w54 hH55
          simp only [List.set_cons_zero, List.set_cons_succ] at hH55
          refine AN.one 13 (by kernel_rfl) ?_
          refine AO.set rfl gnone hH55 (j := 1) rfl (.cons _ (.cons _ (List.Sublist.refl _))) (run_stFac (hb.at (by omega) (by omega)) rfl rfl rfl (hH55.blk (i := 1) rfl)) ?_
          intro w58 hH59
          simp only [List.set_cons_zero, List.set_cons_succ] at hH59
          refine AN.done (by kernel_rfl) ?_
          refine CW.seq ?_
          refine CW.region ?_
          refine RL.val rfl (run_fieldAddr Tryd.underlying36 rfl (off := 0) rfl Tryd.sizeOf3 (by decide) rfl) ?_
          refine RL.val rfl (run_ld Tryd.underlying3 rfl rfl (hH59.cell (i := 0) rfl (v := I _) rfl)) ?_
          refine RL.val rfl (run_fieldAddr Tryd.underlying36 rfl (off := 0) rfl Tryd.sizeOf3 (by decide) rfl) ?_
          refine RL.val rfl (run_ld Tryd.underlying3 rfl rfl (hH59.cell (i := 1) rfl (v := I _) rfl)) ?_
          refine RL.val rfl (run_neq rfl rfl) ?_
          refine RL.val rfl (run_move (v := B _) rfl) ?_
          refine RL.splitP (dj := 44) rfl (fun h61 => ?_) (fun h61 => ?_)
          · refine RL.gF rfl rfl (bT h61) rfl ?_
            refine RL.gF rfl rfl (bT h61) rfl ?_
            refine RL.gF rfl rfl (bT h61) rfl ?_
            refine RL.gF rfl rfl (bT h61) rfl ?_
            refine RL.gF rfl rfl (bT h61) rfl ?_
            refine RL.gF rfl rfl (bT h61) rfl ?_
            refine RL.val rfl (run_pickT (bT h61) (v := B true) rfl) ?_
            refine RL.val rfl (run_move (v := B _) rfl) ?_
            refine RL.gF rfl rfl rfl rfl ?_
            refine RL.gF rfl rfl rfl rfl ?_
            refine RL.gF rfl rfl rfl rfl ?_
            refine RL.gF rfl rfl rfl rfl ?_
            refine RL.gF rfl rfl rfl rfl ?_
            refine RL.gF rfl rfl rfl rfl ?_
            refine RL.val rfl (run_pickT rfl (v := B true) rfl) ?_
            refine RL.nil ?_
            refine CW.condT rfl ?_
            refine CW.seq ?_
            refine CW.region ?_
            refine RL.val rfl (run_assign (v := B false) rfl) ?_
            refine RL.nil ?_
            refine CW.ret ?_
            refine outP1 Tryd.results8 (congrArg B ?_) hH59.below
            first | exact (sameS_no3 (k := k) h0 (by omega) (by rw [sh_get, sh_get]; first | exact nt ‹_› | exact alike_no1 (show ¬ (a.facs.getD k.toNat fac0).kind = (b.facs.getD k.toNat fac0).kind from ‹_›) | exact alike_no2 (show ¬ (a.facs.getD k.toNat fac0).names = (b.facs.getD k.toNat fac0).names from ‹_›) | exact alike_no3 (show ¬ (plainR (a.facs.getD k.toNat fac0).rel).eq (plainR (b.facs.getD k.toNat fac0).rel) from ‹_›))).symm | exact (sameS_yes (k := k) htu (by omega) (by omega) fun j u v => by rw [sh_get, sh_get]; exact hg j u v).symm | exact (sameS_no1 (show ¬ a.tuple = b.tuple by simpa using ‹(!(a.tuple == b.tuple)) = true›)).symm | exact (sameS_no2 (by omega)).symm
          · refine RL.gT rfl (bF h61) ?_
            refine RL.val rfl (run_fieldAddr Tryd.underlying36 rfl (off := 1) rfl Tryd.sizeOf30 (by decide) rfl) ?_
            refine RL.gT rfl (bF h61) ?_
            refine RL.val rfl (run_ld Tryd.underlying30 rfl rfl (hH59.cell (i := 0) rfl rfl)) ?_
            refine RL.gT rfl (bF h61) ?_
            refine RL.val rfl (run_fieldAddr Tryd.underlying36 rfl (off := 1) rfl Tryd.sizeOf30 (by decide) rfl) ?_
            refine RL.gT rfl (bF h61) ?_
            refine RL.val rfl (run_ld Tryd.underlying30 rfl rfl (hH59.cell (i := 1) rfl rfl)) ?_
            refine RL.gT rfl (bF h61) ?_
            refine RL.callP rfl hH59 (c_clearanceref02_Same _ _ _ _  _ ((ha.at (by omega) (by omega)).names.sl.hp hH59) ((hb.at (by omega) (by omega)).names.sl.hp hH59)) (run_call2 Tryd.call19 rfl rfl) ?_
            intro w62 hH63
            refine RL.gT rfl (bF h61) ?_
            refine RL.val rfl (run_notP rfl) ?_
            refine RL.val rfl (run_pickF (bF h61) (v := B _) rfl) ?_
            refine RL.val rfl (run_move (v := B _) rfl) ?_
            refine RL.splitP (dj := 52) rfl (fun h67 => ?_) (fun h67 => ?_)
            · refine RL.gF rfl rfl (bT h67) rfl ?_
              refine RL.gF rfl rfl (bT h67) rfl ?_
              refine RL.gF rfl rfl (bT h67) rfl ?_
              refine RL.gF rfl rfl (bT h67) rfl ?_
              refine RL.gF rfl rfl (bT h67) rfl ?_
              refine RL.gF rfl rfl (bT h67) rfl ?_
              refine RL.val rfl (run_pickT (bT h67) (v := B true) rfl) ?_
              refine RL.nil ?_
              refine CW.condT rfl ?_
              refine CW.seq ?_
              refine CW.region ?_
              refine RL.val rfl (run_assign (v := B false) rfl) ?_
              refine RL.nil ?_
              refine CW.ret ?_
              refine outP1 Tryd.results8 (congrArg B ?_) hH63.below
              first | exact (sameS_no3 (k := k) h0 (by omega) (by rw [sh_get, sh_get]; first | exact nt ‹_› | exact alike_no1 (show ¬ (a.facs.getD k.toNat fac0).kind = (b.facs.getD k.toNat fac0).kind from ‹_›) | exact alike_no2 (show ¬ (a.facs.getD k.toNat fac0).names = (b.facs.getD k.toNat fac0).names from ‹_›) | exact alike_no3 (show ¬ (plainR (a.facs.getD k.toNat fac0).rel).eq (plainR (b.facs.getD k.toNat fac0).rel) from ‹_›))).symm | exact (sameS_yes (k := k) htu (by omega) (by omega) fun j u v => by rw [sh_get, sh_get]; exact hg j u v).symm | exact (sameS_no1 (show ¬ a.tuple = b.tuple by simpa using ‹(!(a.tuple == b.tuple)) = true›)).symm | exact (sameS_no2 (by omega)).symm
            · refine RL.gT rfl (bF h67) ?_
              refine RL.val rfl (run_fieldAddr Tryd.underlying36 rfl (off := 2) rfl Tryd.sizeOf34 (by decide) rfl) ?_
              refine RL.gT rfl (bF h67) ?_
              refine RL.val rfl (run_ldBR Tryd.underlying34 rfl rfl rfl (hH63.blk (i := 0) rfl)) ?_
              refine RL.gT rfl (bF h67) ?_
              refine RL.val rfl (run_fieldAddr Tryd.underlying36 rfl (off := 2) rfl Tryd.sizeOf34 (by decide) rfl) ?_
              refine RL.gT rfl (bF h67) ?_
              refine RL.val rfl (run_ldBR Tryd.underlying34 rfl rfl rfl (hH63.blk (i := 1) rfl)) ?_
              refine RL.gT rfl (bF h67) ?_
              refine RL.callP rfl hH63 (c_clearanceref03_Same _ _  _) (run_call2 Tryd.call20 rfl rfl) ?_
              intro w68 hH69
              refine RL.gT rfl (bF h67) ?_
              refine RL.val rfl (run_notP rfl) ?_
              refine RL.val rfl (run_pickF (bF h67) (v := B _) rfl) ?_
              refine RL.nil ?_
              refine CW.condP rfl (fun h73 => ?_) (fun h73 => ?_)
              · refine CW.seq ?_
                refine CW.region ?_
                refine RL.val rfl (run_assign (v := B false) rfl) ?_
                refine RL.nil ?_
                refine CW.ret ?_
                refine outP1 Tryd.results8 (congrArg B ?_) hH69.below
                first | exact (sameS_no3 (k := k) h0 (by omega) (by rw [sh_get, sh_get]; first | exact nt ‹_› | exact alike_no1 (show ¬ (a.facs.getD k.toNat fac0).kind = (b.facs.getD k.toNat fac0).kind from ‹_›) | exact alike_no2 (show ¬ (a.facs.getD k.toNat fac0).names = (b.facs.getD k.toNat fac0).names from ‹_›) | exact alike_no3 (show ¬ (plainR (a.facs.getD k.toNat fac0).rel).eq (plainR (b.facs.getD k.toNat fac0).rel) from ‹_›))).symm | exact (sameS_yes (k := k) htu (by omega) (by omega) fun j u v => by rw [sh_get, sh_get]; exact hg j u v).symm | exact (sameS_no1 (show ¬ a.tuple = b.tuple by simpa using ‹(!(a.tuple == b.tuple)) = true›)).symm | exact (sameS_no2 (by omega)).symm
              · refine CW.skip ?_
                refine CW.region ?_
                refine RL.val rfl (run_move e5_13) ?_
                refine RL.val rfl (run_add rfl rfl (by omega)) ?_
                refine RL.val rfl (run_assign (v := I _) rfl) ?_
                refine RL.nil ?_
                refine ⟨k + 1, ?_, ((((((((((((((((((((((((((((((((((((((((fr13.u rfl).u rfl).u rfl).u rfl).u rfl).u rfl).u rfl).u rfl).u rfl).u rfl).u rfl).u rfl).u rfl).u rfl).u rfl).u rfl).u rfl).u rfl).u rfl).u rfl).u rfl).u rfl).u rfl).u rfl).u rfl).u rfl).u rfl).u rfl).u rfl).u rfl).u rfl).u rfl).u rfl).u rfl).u rfl).u rfl).u rfl).u rfl).u rfl).u rfl).u rfl, (hH69.sub (.cons _ (.cons _ (List.Sublist.refl _)))), (congrArg I (by first | rfl | omega)), ?_, ?_, ?_⟩
                · ((try dsimp only); omega)
                · omega
                · omega
                · exact fun j u v => if e : j = k then e ▸ (by first | exact nf ‹_› | exact alike_all (a := (a.facs.getD k.toNat fac0).fc) (b := (b.facs.getD k.toNat fac0).fc) (show (a.facs.getD k.toNat fac0).kind = (b.facs.getD k.toNat fac0).kind by omega) (Decidable.of_not_not ‹¬ ¬ (a.facs.getD k.toNat fac0).names = (b.facs.getD k.toNat fac0).names›) (Decidable.of_not_not ‹¬ ¬ (plainR _).eq (plainR _)›)) else hg j u (by omega)
      · refine CW.exit (id := 0) rfl ?_
        refine CW.seq ?_
        refine CW.region ?_
        refine RL.val rfl (run_assign (v := B true) rfl) ?_
        refine RL.nil ?_
        refine CW.ret ?_
        refine outP1 Tryd.results8 (congrArg B ?_) hH13.below
        first | exact (sameS_no3 (k := k) h0 (by omega) (by rw [sh_get, sh_get]; first | exact nt ‹_› | exact alike_no1 (show ¬ (a.facs.getD k.toNat fac0).kind = (b.facs.getD k.toNat fac0).kind from ‹_›) | exact alike_no2 (show ¬ (a.facs.getD k.toNat fac0).names = (b.facs.getD k.toNat fac0).names from ‹_›) | exact alike_no3 (show ¬ (plainR (a.facs.getD k.toNat fac0).rel).eq (plainR (b.facs.getD k.toNat fac0).rel) from ‹_›))).symm | exact (sameS_yes (k := k) htu (by omega) (by omega) fun j u v => by rw [sh_get, sh_get]; exact hg j u v).symm | exact (sameS_no1 (show ¬ a.tuple = b.tuple by simpa using ‹(!(a.tuple == b.tuple)) = true›)).symm | exact (sameS_no2 (by omega)).symm

theorem c_shape_word (f : Fac) (s : BitVec 64) (w : World) (hf : FacV (Kw w) f) (hT : Tab w) : Calls Tryd.prog 25 #[.agg (facC f), U s] w (Pure (B (wordF f.fc s)) w) := by
  have hm := hf.names.sl.small
  unfold maxLen at hm
  refine enter Tryd.func25 rfl Tryd.ntmps25 rfl ?_
  have hH := Hp.start w
  refine CW.seq ?_
  refine CW.region ?_
  refine RL.new rfl hH (f := fun b => (.pointer (some ⟨b, 0, none⟩))) (run_box (v := .agg _) rfl) ?_
  intro b3 w1 hH2
  refine RL.val rfl (run_assign (v := B false) rfl) ?_
  refine RL.nil ?_
  refine CW.seq ?_
  refine CW.seq ?_
  refine CW.region ?_
  refine RL.val rfl (run_fieldAddr Tryd.underlying36 rfl (off := 0) rfl Tryd.sizeOf3 (by decide) rfl) ?_
  refine RL.val rfl (run_ld Tryd.underlying3 rfl rfl (hH2.cell (i := 0) rfl (v := I _) rfl)) ?_
  refine RL.nil ?_
  refine CW.block ?_
  refine CW.seq ?_
  refine CW.region ?_
  refine RL.val rfl (run_eql rfl rfl) ?_
  refine RL.val rfl (run_assign (v := B _) rfl) ?_
  refine RL.nil ?_
  refine CW.condP rfl (fun h5 => ?_) (fun h5 => ?_)
  · refine CW.seq ?_
    refine CW.region ?_
    refine RL.val rfl (run_fieldAddr Tryd.underlying36 rfl (off := 1) rfl Tryd.sizeOf30 (by decide) rfl) ?_
    refine RL.val rfl (run_ld Tryd.underlying30 rfl rfl (hH2.cell (i := 0) rfl rfl)) ?_
    refine RL.val rfl (run_lenSl (hf.names.sl.hp hH2) rfl Tryd.underlying30 rfl) ?_
    refine RL.val rfl (run_move (v := U _) rfl) ?_
    refine RL.callP rfl hH2 (c_rung_Right _ _  _) (run_call2 Tryd.call37 rfl rfl) ?_
    intro w6 hH7
    refine RL.val rfl (run_assign (v := B _) rfl) ?_
    refine RL.nil ?_
    refine CW.ret ?_
    refine outP1 Tryd.results25 (congrArg B ?_) hH7.below
    first | exact (word1 (f := f.fc) ‹_› s).symm | exact (word2 (f := f.fc) ‹_› s).symm | exact (word3 (f := f.fc) ‹_› s).symm | exact (wordx (f := f.fc) ‹_› ‹_› ‹_› s).symm
  · refine CW.seq ?_
    refine CW.region ?_
    refine RL.val rfl (run_eql rfl rfl) ?_
    refine RL.val rfl (run_assign (v := B _) rfl) ?_
    refine RL.nil ?_
    refine CW.condP rfl (fun h10 => ?_) (fun h10 => ?_)
    · refine CW.seq ?_
      refine CW.region ?_
      refine RL.val rfl (run_move (v := U _) rfl) ?_
      refine RL.val rfl (run_fieldAddr Tryd.underlying36 rfl (off := 1) rfl Tryd.sizeOf30 (by decide) rfl) ?_
      refine RL.val rfl (run_ld Tryd.underlying30 rfl rfl (hH2.cell (i := 0) rfl rfl)) ?_
      refine RL.val rfl (run_lenSl (hf.names.sl.hp hH2) rfl Tryd.underlying30 rfl) ?_
      refine RL.callP rfl hH2 (c_mask_Below _  _) (run_call1 Tryd.call38 rfl) ?_
      intro w11 hH12
      refine RL.callP rfl hH12 (c_mask_Sub _ _  _) (run_call2 Tryd.call29 rfl rfl) ?_
      intro w13 hH14
      refine RL.val rfl (run_assign (v := B _) rfl) ?_
      refine RL.nil ?_
      refine CW.ret ?_
      refine outP1 Tryd.results25 (congrArg B ?_) hH14.below
      first | exact (word1 (f := f.fc) ‹_› s).symm | exact (word2 (f := f.fc) ‹_› s).symm | exact (word3 (f := f.fc) ‹_› s).symm | exact (wordx (f := f.fc) ‹_› ‹_› ‹_› s).symm
    · refine CW.seq ?_
      refine CW.region ?_
      refine RL.val rfl (run_eql rfl rfl) ?_
      refine RL.val rfl (run_assign (v := B _) rfl) ?_
      refine RL.nil ?_
      refine CW.condP rfl (fun h17 => ?_) (fun h17 => ?_)
      · refine CW.seq ?_
        refine CW.region ?_
        refine RL.val rfl (run_fieldAddr Tryd.underlying36 rfl (off := 2) rfl Tryd.sizeOf34 (by decide) rfl) ?_
        refine RL.val rfl (run_ldBR Tryd.underlying34 rfl rfl rfl (hH2.blk (i := 0) rfl)) ?_
        refine RL.val rfl (run_move (v := U _) rfl) ?_
        refine RL.callP rfl hH2 (c_grid_Closed _ _  _ (hT.hp hH2)) (run_call2 Tryd.call39 rfl rfl) ?_
        intro w18 hH19
        refine RL.val rfl (run_assign (v := B _) rfl) ?_
        refine RL.nil ?_
        refine CW.ret ?_
        refine outP1 Tryd.results25 (congrArg B ?_) hH19.below
        first | exact (word1 (f := f.fc) ‹_› s).symm | exact (word2 (f := f.fc) ‹_› s).symm | exact (word3 (f := f.fc) ‹_› s).symm | exact (wordx (f := f.fc) ‹_› ‹_› ‹_› s).symm
      · refine CW.skip ?_
        refine CW.seq ?_
        refine CW.region ?_
        refine RL.val rfl (run_fieldAddr Tryd.underlying36 rfl (off := 2) rfl Tryd.sizeOf34 (by decide) rfl) ?_
        refine RL.val rfl (run_ldBR Tryd.underlying34 rfl rfl rfl (hH2.blk (i := 0) rfl)) ?_
        refine RL.val rfl (run_move (v := U _) rfl) ?_
        refine RL.callP rfl hH2 (c_hasse_Point _ _  _ (hT.hp hH2)) (run_call2 Tryd.call40 rfl rfl) ?_
        intro w21 hH22
        refine RL.val rfl (run_move (by conv => lhs; whnf)) ?_
        refine RL.val rfl (run_extract rfl (v := I _) rfl) ?_
        refine RL.val rfl (run_extract rfl (v := B _) rfl) ?_
        refine RL.val rfl (run_assign (v := I _) rfl) ?_
        refine RL.val rfl (run_assign (v := B _) rfl) ?_
        refine RL.nil ?_
        refine CW.seq ?_
        refine CW.region ?_
        refine RL.val rfl (run_move (v := B _) rfl) ?_
        refine RL.val rfl (run_assign (v := B _) rfl) ?_
        refine RL.nil ?_
        refine CW.ret ?_
        refine outP1 Tryd.results25 (congrArg B ?_) hH22.below
        first | exact (word1 (f := f.fc) ‹_› s).symm | exact (word2 (f := f.fc) ‹_› s).symm | exact (word3 (f := f.fc) ‹_› s).symm | exact (wordx (f := f.fc) ‹_› ‹_› ‹_› s).symm

theorem c_shape_Fits (s : Shp) (e : El) (w : World) (hs : ShpV (Kw w) s) (hT : Tab w) : Calls Tryd.prog 13 #[.agg (shpC s), .agg (elC e)] w (Pure (B (fitsS s.sh e)) w) := by
  have hsl := sh_len s
  have hm := hs.facs.sl.small
  unfold maxLen at hm
  refine enter Tryd.func13 rfl Tryd.ntmps13 rfl ?_
  have hH := Hp.start w
  refine CW.seq ?_
  refine CW.region ?_
  refine RL.new rfl hH (f := fun b => (.pointer (some ⟨b, 0, none⟩))) (run_box (v := .agg _) rfl) ?_
  intro b3 w1 hH2
  refine RL.new rfl hH2 (f := fun b => (.pointer (some ⟨b, 0, none⟩))) (run_box (v := .agg _) rfl) ?_
  intro b6 w4 hH5
  refine RL.val rfl (run_assign (v := B false) rfl) ?_
  refine RL.nil ?_
  refine CW.seq ?_
  refine CW.seq ?_
  refine CW.region ?_
  refine RL.val rfl (run_ldA (cs := [B _, _]) Tryd.underlying24 rfl rfl rfl (rangeAt_cells (hH5.blk (i := 1) rfl))) ?_
  refine RL.callP rfl hH5 (c_shape_Right _  _ (hs.mono hH5.kw) (hT.hp hH5)) (run_call1 Tryd.call11 rfl) ?_
  intro w7 hH8
  refine RL.val rfl (run_not rfl) ?_
  refine RL.nil ?_
  refine CW.cond rfl (fun h11 => ?_) (fun h11 => ?_)
  · refine CW.seq ?_
    refine CW.region ?_
    refine RL.val rfl (run_assign (v := B false) rfl) ?_
    refine RL.nil ?_
    refine CW.ret ?_
    refine outP1 Tryd.results13 (congrArg B ?_) hH8.below
    first | exact (fits_no1 (nt ‹_›)).symm | exact (fits_no3 h0 ‹_› (by omega) ‹_›).symm | exact (fits_no2 h0 ‹_› (by omega) (by rw [sh_get]; exact nt ‹_›)).symm | exact (fits_yes hr ‹_› hf).symm
  · refine CW.skip ?_
    refine CW.seq ?_
    refine CW.seq ?_
    refine CW.region ?_
    refine RL.val rfl (run_ldEl Tryd.underlying40 rfl rfl rfl (hH8.blk (i := 0) rfl)) ?_
    refine RL.val rfl (run_move (v := I 0) rfl) ?_
    refine RL.nil ?_
    refine CW.block ?_
    have hr : shR s.sh = true := nf ‹_›
    refine CW.loop (G := (Int)) (fun (k : Int) s' w' => (Fr [4, 5, 6, 11, 12, 13, 14, 15, 16, 17, 18, 19, 20, 21, 22, 23, 24, 25, 26, 27, 28, 29, 30] _ s') ∧ (Hp w w' _) ∧ (s' 11 = I k) ∧ (0 ≤ k) ∧ (k ≤ 8) ∧ (FitTo s.sh e k)) (fun (k : Int) => (8 - k).toNat) (0) ⟨Fr.refl _ _, hH8, rfl, (by omega), (by omega), FitTo.none _ _⟩ ?_
    rintro k sg12 w12 ⟨fr12, hH12, e11_12, h0, hk, hf⟩
    have e2_12 : sg12 2 = .pointer (some ⟨_, _, none⟩) := (fr12 2 rfl).trans rfl
    have e10_12 : sg12 10 = .agg _ := (fr12 10 rfl).trans rfl
    refine CW.seq ?_
    refine CW.region ?_
    refine RL.val rfl (run_lss e11_12 rfl) ?_
    refine RL.nil ?_
    refine CW.seq ?_
    refine CW.condP rfl (fun h14 => ?_) (fun h14 => ?_)
    · refine CW.skip ?_
      refine CW.seq ?_
      refine CW.block ?_
      refine CW.seq ?_
      refine CW.region ?_
      refine RL.val rfl (run_move e11_12) ?_
      refine RL.val rfl (run_indexA Tryd.underlying40 Tryd.isAgg31 Tryd.sizeOf31 e10_12 e11_12 (by omega) (elC_ix _ (by omega))) ?_
      refine RL.val rfl (run_assign (v := I _) rfl) ?_
      refine RL.val rfl (run_assign (v := U _) rfl) ?_
      refine RL.nil ?_
      refine CW.seq ?_
      refine CW.seq ?_
      refine CW.region ?_
      refine RL.val rfl (run_move (v := I _) rfl) ?_
      refine RL.val rfl (run_fieldAddr Tryd.underlying24 rfl (off := 1) rfl Tryd.sizeOf22 (by decide) e2_12) ?_
      refine RL.val rfl (run_ld Tryd.underlying22 rfl rfl (hH12.cell (i := 1) rfl rfl)) ?_
      refine RL.val rfl (run_lenSl (hs.facs.sl.hp hH12) rfl Tryd.underlying22 rfl) ?_
      refine RL.val rfl (run_geq rfl rfl) ?_
      refine RL.nil ?_
      refine CW.condP rfl (fun h16 => ?_) (fun h16 => ?_)
      · refine CW.seq ?_
        refine CW.seq ?_
        refine CW.region ?_
        refine RL.val rfl (run_move (v := U _) rfl) ?_
        refine RL.val rfl (run_neqU rfl (b := 0#64) rfl) ?_
        refine RL.nil ?_
        refine CW.condP rfl (fun h18 => ?_) (fun h18 => ?_)
        · refine CW.seq ?_
          refine CW.region ?_
          refine RL.val rfl (run_assign (v := B false) rfl) ?_
          refine RL.nil ?_
          refine CW.ret ?_
          refine outP1 Tryd.results13 (congrArg B ?_) hH12.below
          first | exact (fits_no1 (nt ‹_›)).symm | exact (fits_no3 h0 ‹_› (by omega) ‹_›).symm | exact (fits_no2 h0 ‹_› (by omega) (by rw [sh_get]; exact nt ‹_›)).symm | exact (fits_yes hr ‹_› hf).symm
        · refine CW.skip ?_
          refine CW.exit (id := 1) rfl ?_
          refine CW.region ?_
          refine RL.val rfl (run_add e11_12 rfl (by omega)) ?_
          refine RL.val rfl (run_move (v := I _) rfl) ?_
          refine RL.nil ?_
          refine ⟨k + 1, ?_, (((((((((((((fr12.u rfl).u rfl).u rfl).u rfl).u rfl).u rfl).u rfl).u rfl).u rfl).u rfl).u rfl).u rfl).u rfl).u rfl, hH12, (congrArg I (by first | rfl | omega)), ?_, ?_, ?_⟩
          · ((try dsimp only); omega)
          · omega
          · omega
          · exact hf.next (fun h => by first | (exfalso; omega) | (rw [sh_get]; exact nf ‹_›)) (fun h => by first | exact Decidable.of_not_not ‹_› | (exfalso; omega))
      · refine CW.skip ?_
        refine CW.seq ?_
        refine CW.region ?_
        refine RL.val rfl (run_fieldAddr Tryd.underlying24 rfl (off := 1) rfl Tryd.sizeOf22 (by decide) e2_12) ?_
        refine RL.val rfl (run_ld Tryd.underlying22 rfl rfl (hH12.cell (i := 1) rfl rfl)) ?_
        refine RL.val rfl (run_move (v := I _) rfl) ?_
        refine RL.val rfl (run_indexAddrS (hs.facs.sl.hp hH12) Tryd.underlying22 Tryd.sizeOf36 rfl rfl (by omega)) ?_
        refine RL.val rfl (run_ldE (dv := fac0) facL_len (hs.facs.sl.hp hH12) Tryd.underlying36 rfl rfl rfl (by omega)) ?_
        refine RL.val rfl (run_move (v := U _) rfl) ?_
        refine RL.callP rfl hH12 (c_shape_word _ _  _ ((hs.at (by omega) (by omega)).mono hH12.kw) (hT.hp hH12)) (run_call2 Tryd.call25 rfl rfl) ?_
        intro w19 hH20
        refine RL.val rfl (run_not rfl) ?_
        refine RL.nil ?_
        refine CW.cond rfl (fun h23 => ?_) (fun h23 => ?_)
        · refine CW.seq ?_
          refine CW.region ?_
          refine RL.val rfl (run_assign (v := B false) rfl) ?_
          refine RL.nil ?_
          refine CW.ret ?_
          refine outP1 Tryd.results13 (congrArg B ?_) hH20.below
          first | exact (fits_no1 (nt ‹_›)).symm | exact (fits_no3 h0 ‹_› (by omega) ‹_›).symm | exact (fits_no2 h0 ‹_› (by omega) (by rw [sh_get]; exact nt ‹_›)).symm | exact (fits_yes hr ‹_› hf).symm
        · refine CW.skip ?_
          refine CW.region ?_
          refine RL.val rfl (run_add e11_12 rfl (by omega)) ?_
          refine RL.val rfl (run_move (v := I _) rfl) ?_
          refine RL.nil ?_
          refine ⟨k + 1, ?_, (((((((((((((((((((fr12.u rfl).u rfl).u rfl).u rfl).u rfl).u rfl).u rfl).u rfl).u rfl).u rfl).u rfl).u rfl).u rfl).u rfl).u rfl).u rfl).u rfl).u rfl).u rfl).u rfl, hH20, (congrArg I (by first | rfl | omega)), ?_, ?_, ?_⟩
          · ((try dsimp only); omega)
          · omega
          · omega
          · exact hf.next (fun h => by first | (exfalso; omega) | (rw [sh_get]; exact nf ‹_›)) (fun h => by first | exact Decidable.of_not_not ‹_› | (exfalso; omega))
    · refine CW.exit (id := 0) rfl ?_
      refine CW.seq ?_
      refine CW.region ?_
      refine RL.val rfl (run_assign (v := B true) rfl) ?_
      refine RL.nil ?_
      refine CW.ret ?_
      refine outP1 Tryd.results13 (congrArg B ?_) hH12.below
      first | exact (fits_no1 (nt ‹_›)).symm | exact (fits_no3 h0 ‹_› (by omega) ‹_›).symm | exact (fits_no2 h0 ‹_› (by omega) (by rw [sh_get]; exact nt ‹_›)).symm | exact (fits_yes hr ‹_› hf).symm

theorem c_shape_Leq (a b : El) (w : World) : Calls Tryd.prog 18 #[.agg (elC a), .agg (elC b)] w (Pure (B (leqE a b)) w) := by
  refine enter Tryd.func18 rfl Tryd.ntmps18 rfl ?_
  have hH := Hp.start w
  refine CW.seq ?_
  refine CW.region ?_
  refine RL.new rfl hH (f := fun b => (.pointer (some ⟨b, 0, none⟩))) (run_box (v := .agg _) rfl) ?_
  intro b3 w1 hH2
  refine RL.new rfl hH2 (f := fun b => (.pointer (some ⟨b, 0, none⟩))) (run_box (v := .agg _) rfl) ?_
  intro b6 w4 hH5
  refine RL.val rfl (run_assign (v := B false) rfl) ?_
  refine RL.nil ?_
  refine CW.seq ?_
  refine CW.seq ?_
  refine CW.region ?_
  refine RL.val rfl (run_move (v := I 0) rfl) ?_
  refine RL.nil ?_
  refine CW.block ?_
  refine CW.loop (G := (Int)) (fun (k : Int) s' w' => (Fr [4, 5, 6, 7, 8, 9, 10, 11, 12, 13, 14, 15, 16, 17] _ s') ∧ (Hp w w' _) ∧ (s' 6 = I k) ∧ (0 ≤ k) ∧ (k ≤ 8) ∧ (∀ j : Int, 0 ≤ j → j < k → subB (a j.toNat) (b j.toNat) = true)) (fun (k : Int) => (8 - k).toNat) (0) ⟨Fr.refl _ _, hH5, rfl, (by omega), (by omega), fun j u v => absurd v (by omega)⟩ ?_
  rintro k sg7 w7 ⟨fr7, hH7, e6_7, h0, hk, hf⟩
  have e2_7 : sg7 2 = .pointer (some ⟨_, _, none⟩) := (fr7 2 rfl).trans rfl
  have e3_7 : sg7 3 = .pointer (some ⟨_, _, none⟩) := (fr7 3 rfl).trans rfl
  refine CW.seq ?_
  refine CW.region ?_
  refine RL.val rfl (run_lss e6_7 rfl) ?_
  refine RL.nil ?_
  refine CW.seq ?_
  refine CW.condP rfl (fun h9 => ?_) (fun h9 => ?_)
  · refine CW.skip ?_
    refine CW.seq ?_
    refine CW.block ?_
    refine CW.seq ?_
    refine CW.region ?_
    refine RL.val rfl (run_move e6_7) ?_
    refine RL.val rfl (run_assign (v := I _) rfl) ?_
    refine RL.nil ?_
    refine CW.seq ?_
    refine CW.regionD (by kernel_rfl) hH7 ?_
    intro w10 hH11
    refine AN.take 0 rfl rfl (by kernel_rfl) (by kernel_rfl) (by kernel_rfl) (hH11.sub (List.Sublist.refl _)) (fun w hS => run_move (v := I _) rfl) ?_
    refine AN.take 1 rfl rfl (by kernel_rfl) (by kernel_rfl) (by kernel_rfl) (hH11.sub (List.Sublist.refl _)) (fun w hS => run_indexAddrA Tryd.underlying40 Tryd.sizeOf31 e2_7 rfl (by omega)) ?_
    refine AN.take 2 rfl rfl (by kernel_rfl) (by kernel_rfl) (by kernel_rfl) (hH11.sub (List.Sublist.refl _)) (fun w hS => run_ld Tryd.underlying31 rfl rfl (hS.cell (i := 1) rfl (elC_at _ (by omega)))) ?_
    refine AN.take 3 rfl rfl (by kernel_rfl) (by kernel_rfl) (by kernel_rfl) (hH11.sub (List.Sublist.refl _)) (fun w hS => run_move (v := I _) rfl) ?_
    refine AN.take 4 rfl rfl (by kernel_rfl) (by kernel_rfl) (by kernel_rfl) (hH11.sub (List.Sublist.refl _)) (fun w hS => run_indexAddrA Tryd.underlying40 Tryd.sizeOf31 e3_7 rfl (by omega)) ?_
    refine AN.take 5 rfl rfl (by kernel_rfl) (by kernel_rfl) (by kernel_rfl) (hH11.sub (List.Sublist.refl _)) (fun w hS => run_ld Tryd.underlying31 rfl rfl (hS.cell (i := 0) rfl (elC_at _ (by omega)))) ?_
    refine AN.one 6 (by kernel_rfl) ?_
    refine AO.callP rfl gnone rfl hH11 (List.Sublist.refl _) (c_mask_Sub _ _  _) (run_call2 Tryd.call29 rfl rfl) ?_
    intro w12 hH13
    refine AN.take 7 rfl rfl (by kernel_rfl) (by kernel_rfl) (by kernel_rfl) (hH13.sub (List.Sublist.refl _)) (fun w hS => run_not rfl) ?_
    refine AN.done (by kernel_rfl) ?_
    refine CW.cond rfl (fun h16 => ?_) (fun h16 => ?_)
    · refine CW.seq ?_
      refine CW.region ?_
      refine RL.val rfl (run_assign (v := B false) rfl) ?_
      refine RL.nil ?_
      refine CW.ret ?_
      refine outP1 Tryd.results18 (congrArg B ?_) hH13.below
      first | exact (leq_no h0 ‹_› (nt ‹_›)).symm | exact (leq_yes ‹_› hf).symm
    · refine CW.skip ?_
      refine CW.region ?_
      refine RL.val rfl (run_add e6_7 rfl (by omega)) ?_
      refine RL.val rfl (run_move (v := I _) rfl) ?_
      refine RL.nil ?_
      refine ⟨k + 1, ?_, ((((((((((((fr7.u rfl).u rfl).u rfl).u rfl).u rfl).u rfl).u rfl).u rfl).u rfl).u rfl).u rfl).u rfl).u rfl, hH13, (congrArg I (by first | rfl | omega)), ?_, ?_, ?_⟩
      · ((try dsimp only); omega)
      · omega
      · omega
      · exact fun j u v => if e : j = k then e ▸ nf ‹_› else hf j u (by omega)
  · refine CW.exit (id := 0) rfl ?_
    refine CW.seq ?_
    refine CW.region ?_
    refine RL.val rfl (run_assign (v := B true) rfl) ?_
    refine RL.nil ?_
    refine CW.ret ?_
    refine outP1 Tryd.results18 (congrArg B ?_) hH7.below
    first | exact (leq_no h0 ‹_› (nt ‹_›)).symm | exact (leq_yes ‹_› hf).symm

theorem c_shape_Join (s : Shp) (a b : El) (w : World) (hs : ShpV (Kw w) s) (hT : Tab w) : Calls Tryd.prog 15 #[.agg (shpC s), .agg (elC a), .agg (elC b)] w (Pure (.agg (elC (joinS s.sh a b))) w) := by
  have hsl := sh_len s
  have hm := hs.facs.sl.small
  unfold maxLen at hm
  refine enter Tryd.func15 rfl Tryd.ntmps15 rfl ?_
  have hH := Hp.start w
  refine CW.seq ?_
  refine CW.region ?_
  refine RL.new rfl hH (f := fun b => (.pointer (some ⟨b, 0, none⟩))) (run_box (v := .agg _) rfl) ?_
  intro b3 w1 hH2
  refine RL.new rfl hH2 (f := fun b => (.pointer (some ⟨b, 0, none⟩))) (run_box (v := .agg _) rfl) ?_
  intro b6 w4 hH5
  refine RL.new rfl hH5 (f := fun b => (.pointer (some ⟨b, 0, none⟩))) (run_box (v := .agg _) rfl) ?_
  intro b9 w7 hH8
  refine RL.new rfl hH8 (f := fun b => (.pointer (some ⟨b, 0, none⟩))) (run_alloc zero_el) ?_
  intro b12 w10 hH11
  refine RL.nil ?_
  refine CW.seq ?_
  refine CW.seq ?_
  refine CW.region ?_
  refine RL.val rfl (run_move (v := I 0) rfl) ?_
  refine RL.nil ?_
  refine CW.block ?_
  refine CW.loop (G := (Int) × (El)) (fun (⟨k, e1⟩ : (Int) × (El)) s' w' => (Fr [7, 8, 9, 10, 11, 12, 13, 14, 15, 16, 17, 18, 19, 20, 21, 22, 23, 24, 25, 26, 27, 28, 29, 30, 31, 32, 33, 34, 35, 36, 37, 38, 39, 40, 41, 42, 43, 44, 45, 46, 47, 48] _ s') ∧ (Hp w w' (_ :: _ :: .blk b6 (.cells (elC e1) 40 (0, 0)) :: _)) ∧ (s' 8 = I k) ∧ (0 ≤ k) ∧ (k ≤ 8) ∧ (e1 = mixE (joinS s.sh a b) a k)) (fun (⟨k, e1⟩ : (Int) × (El)) => (8 - k).toNat) ((0, a)) ⟨Fr.refl _ _, hH11, rfl, (by omega), (by omega), (mix_zero _ _).symm⟩ ?_
  rintro ⟨k, e1⟩ sg13 w13 ⟨fr13, hH13, e8_13, h0, hk, hr⟩
  have e3_13 : sg13 3 = .pointer (some ⟨_, _, none⟩) := (fr13 3 rfl).trans rfl
  have e4_13 : sg13 4 = .pointer (some ⟨_, _, none⟩) := (fr13 4 rfl).trans rfl
  have e5_13 : sg13 5 = .pointer (some ⟨_, _, none⟩) := (fr13 5 rfl).trans rfl
  have e6_13 : sg13 6 = .pointer (some ⟨_, _, none⟩) := (fr13 6 rfl).trans rfl
  refine CW.seq ?_
  refine CW.region ?_
  refine RL.val rfl (run_lss e8_13 rfl) ?_
  refine RL.nil ?_
  refine CW.seq ?_
  refine CW.condP rfl (fun h15 => ?_) (fun h15 => ?_)
  · refine CW.skip ?_
    refine CW.seq ?_
    refine CW.block ?_
    refine CW.seq ?_
    refine CW.region ?_
    refine RL.val rfl (run_move e8_13) ?_
    refine RL.val rfl (run_assign (v := I _) rfl) ?_
    refine RL.nil ?_
    refine CW.seq ?_
    refine CW.seq ?_
    refine CW.region ?_
    refine RL.val rfl (run_move (v := I _) rfl) ?_
    refine RL.val rfl (run_fieldAddr Tryd.underlying24 rfl (off := 1) rfl Tryd.sizeOf22 (by decide) e3_13) ?_
    refine RL.val rfl (run_ld Tryd.underlying22 rfl rfl (hH13.cell (i := 3) rfl rfl)) ?_
    refine RL.val rfl (run_lenSl (hs.facs.sl.hp hH13) rfl Tryd.underlying22 rfl) ?_
    refine RL.val rfl (run_lss rfl rfl) ?_
    refine RL.val rfl (run_move (v := B _) rfl) ?_
    refine RL.splitP (dj := 16) rfl (fun h17 => ?_) (fun h17 => ?_)
    · refine RL.gT rfl (bT h17) ?_
      refine RL.val rfl (run_fieldAddr Tryd.underlying24 rfl (off := 1) rfl Tryd.sizeOf22 (by decide) e3_13) ?_
      refine RL.gT rfl (bT h17) ?_
      refine RL.val rfl (run_ld Tryd.underlying22 rfl rfl (hH13.cell (i := 3) rfl rfl)) ?_
      refine RL.gT rfl (bT h17) ?_
      refine RL.val rfl (run_move (v := I _) rfl) ?_
      refine RL.gT rfl (bT h17) ?_
      refine RL.val rfl (run_indexAddrS (hs.facs.sl.hp hH13) Tryd.underlying22 Tryd.sizeOf36 rfl rfl (by omega)) ?_
      refine RL.gT rfl (bT h17) ?_
      refine RL.val rfl (run_fieldAddr Tryd.underlying36 rfl (off := 0) rfl Tryd.sizeOf3 (by decide) rfl) ?_
      refine RL.gT rfl (bT h17) ?_
      refine RL.val rfl (run_ldE1 (dv := fac0) facL_len (hs.facs.sl.hp hH13) Tryd.underlying3 rfl rfl (by omega) rfl) ?_
      refine RL.gT rfl (bT h17) ?_
      refine RL.val rfl (run_eql rfl rfl) ?_
      refine RL.val rfl (run_pickT (bT h17) (v := B _) rfl) ?_
      refine RL.nil ?_
      refine CW.condP rfl (fun h19 => ?_) (fun h19 => ?_)
      · refine CW.seq ?_
        refine CW.regionS (by kernel_rfl) hH13 (.cons_cons _ (.cons_cons _ (.cons _ (List.Sublist.refl _)))) ?_
        intro w20 hH21
        refine AN.take 0 rfl rfl (by kernel_rfl) (by kernel_rfl) (by kernel_rfl) (hH21.sub (.cons_cons _ (.cons_cons _ (.cons _ (List.Sublist.refl _))))) (fun w hS => run_move (v := I _) rfl) ?_
        refine AN.take 1 rfl rfl (by kernel_rfl) (by kernel_rfl) (by kernel_rfl) (hH21.sub (.cons_cons _ (.cons_cons _ (.cons _ (List.Sublist.refl _))))) (fun w hS => run_fieldAddr Tryd.underlying24 rfl (off := 1) rfl Tryd.sizeOf22 (by decide) e3_13) ?_
        refine AN.take 2 rfl rfl (by kernel_rfl) (by kernel_rfl) (by kernel_rfl) (hH21.sub (.cons_cons _ (.cons_cons _ (.cons _ (List.Sublist.refl _))))) (fun w hS => run_ld Tryd.underlying22 rfl rfl (hS.cell (i := 2) rfl rfl)) ?_
        refine AN.take 3 rfl rfl (by kernel_rfl) (by kernel_rfl) (by kernel_rfl) (hH21.sub (.cons_cons _ (.cons_cons _ (.cons _ (List.Sublist.refl _))))) (fun w hS => run_move (v := I _) rfl) ?_
        refine AN.take 4 rfl rfl (by kernel_rfl) (by kernel_rfl) (by kernel_rfl) (hH21.sub (.cons_cons _ (.cons_cons _ (.cons _ (List.Sublist.refl _))))) (fun w hS => run_indexAddrS (hs.facs.sl.hp hS) Tryd.underlying22 Tryd.sizeOf36 rfl rfl (by omega)) ?_
        refine AN.take 5 rfl rfl (by kernel_rfl) (by kernel_rfl) (by kernel_rfl) (hH21.sub (.cons_cons _ (.cons_cons _ (.cons _ (List.Sublist.refl _))))) (fun w hS => run_fieldAddr Tryd.underlying36 rfl (off := 2) rfl Tryd.sizeOf34 (by decide) rfl) ?_
        refine AN.take 6 rfl rfl (by kernel_rfl) (by kernel_rfl) (by kernel_rfl) (hH21.sub (.cons_cons _ (.cons_cons _ (.cons _ (List.Sublist.refl _))))) (fun w hS => run_ldFR (hs.facs.sl.hp hS) Tryd.underlying34 rfl rfl rfl (by omega)) ?_
        refine AN.take 7 rfl rfl (by kernel_rfl) (by kernel_rfl) (by kernel_rfl) (hH21.sub (.cons_cons _ (.cons_cons _ (.cons _ (List.Sublist.refl _))))) (fun w hS => run_move (v := I _) rfl) ?_
        refine AN.take 8 rfl rfl (by kernel_rfl) (by kernel_rfl) (by kernel_rfl) (hH21.sub (.cons_cons _ (.cons_cons _ (.cons _ (List.Sublist.refl _))))) (fun w hS => run_indexAddrA Tryd.underlying40 Tryd.sizeOf31 e4_13 rfl (by omega)) ?_
        refine AN.take 10 rfl rfl (by kernel_rfl) (by kernel_rfl) (by kernel_rfl) (hH21.sub (.cons_cons _ (.cons_cons _ (.cons _ (List.Sublist.refl _))))) (fun w hS => run_move (v := I _) rfl) ?_
        refine AN.take 11 rfl rfl (by kernel_rfl) (by kernel_rfl) (by kernel_rfl) (hH21.sub (.cons_cons _ (.cons_cons _ (.cons _ (List.Sublist.refl _))))) (fun w hS => run_indexAddrA Tryd.underlying40 Tryd.sizeOf31 e5_13 rfl (by omega)) ?_
        refine AN.take 12 rfl rfl (by kernel_rfl) (by kernel_rfl) (by kernel_rfl) (hH21.sub (.cons_cons _ (.cons_cons _ (.cons _ (List.Sublist.refl _))))) (fun w hS => run_ld Tryd.underlying31 rfl rfl (hS.cell (i := 1) rfl (elC_at _ (by omega)))) ?_
        refine AN.one 9 (by kernel_rfl) ?_
        refine AO.read rfl gnone rfl hH21 (.cons_cons _ (.cons_cons _ (.cons _ (List.Sublist.refl _)))) (run_ld Tryd.underlying31 rfl rfl (hH21.cell (i := 2) rfl (elC_at _ (by omega)))) ?_
        refine AN.one 13 (by kernel_rfl) ?_
        refine AO.callP rfl gnone rfl hH21 (.cons_cons _ (.cons_cons _ (.cons _ (List.Sublist.refl _)))) (c_hasse_Raise _ _ _  _ (hT.hp hH21)) (run_call3 Tryd.call27 rfl rfl rfl) ?_
        intro w24 hH25
        refine AN.take 14 rfl rfl (by kernel_rfl) (by kernel_rfl) (by kernel_rfl) (hH25.sub (.cons_cons _ (.cons_cons _ (.cons _ (List.Sublist.refl _))))) (fun w hS => run_indexAddrA Tryd.underlying40 Tryd.sizeOf31 e4_13 rfl (by omega)) ?_
        refine AN.one 15 (by kernel_rfl) ?_
        refine AO.set rfl gnone hH25 (j := 2) rfl (.cons_cons _ (.cons_cons _ (.cons _ (List.Sublist.refl _)))) (run_st rfl rfl (v := U _) rfl rfl rfl (hH25.blk (i := 2) rfl) (by rw [elC_size]; omega)) ?_
        intro w28 hH29
        simp only [List.set_cons_zero, List.set_cons_succ] at hH29
        rw [elC_put] at hH29
        refine AN.done (by kernel_rfl) ?_
        refine CW.exit (id := 1) rfl ?_
        refine CW.region ?_
        refine RL.val rfl (run_add e8_13 rfl (by omega)) ?_
        refine RL.val rfl (run_move (v := I _) rfl) ?_
        refine RL.nil ?_
        refine ⟨(k + 1, _), ?_, (((((((((((((((((((((((((((((((((fr13.u rfl).u rfl).u rfl).u rfl).u rfl).u rfl).u rfl).u rfl).u rfl).u rfl).u rfl).u rfl).u rfl).u rfl).u rfl).u rfl).u rfl).u rfl).u rfl).u rfl).u rfl).u rfl).u rfl).u rfl).u rfl).u rfl).u rfl).u rfl).u rfl).u rfl).u rfl).u rfl).u rfl).u rfl, hH29, (congrArg I (by first | rfl | omega)), ?_, ?_, ?_⟩
        · ((try dsimp only); omega)
        · omega
        · omega
        · first | exact join_put4 hr h0 ‹_› ‹_› | exact join_putO hr h0 (fun hc => absurd hc.1 (by omega)) | exact join_putO hr h0 (fun hc => absurd hc.2 (by omega))
      · refine CW.skip ?_
        refine CW.regionS (by kernel_rfl) hH13 (.cons_cons _ (.cons_cons _ (.cons _ (List.Sublist.refl _)))) ?_
        intro w30 hH31
        refine AN.take 0 rfl rfl (by kernel_rfl) (by kernel_rfl) (by kernel_rfl) (hH31.sub (.cons_cons _ (.cons_cons _ (.cons _ (List.Sublist.refl _))))) (fun w hS => run_move (v := I _) rfl) ?_
        refine AN.take 1 rfl rfl (by kernel_rfl) (by kernel_rfl) (by kernel_rfl) (hH31.sub (.cons_cons _ (.cons_cons _ (.cons _ (List.Sublist.refl _))))) (fun w hS => run_indexAddrA Tryd.underlying40 Tryd.sizeOf31 e4_13 rfl (by omega)) ?_
        refine AN.take 3 rfl rfl (by kernel_rfl) (by kernel_rfl) (by kernel_rfl) (hH31.sub (.cons_cons _ (.cons_cons _ (.cons _ (List.Sublist.refl _))))) (fun w hS => run_move (v := I _) rfl) ?_
        refine AN.take 4 rfl rfl (by kernel_rfl) (by kernel_rfl) (by kernel_rfl) (hH31.sub (.cons_cons _ (.cons_cons _ (.cons _ (List.Sublist.refl _))))) (fun w hS => run_indexAddrA Tryd.underlying40 Tryd.sizeOf31 e5_13 rfl (by omega)) ?_
        refine AN.take 5 rfl rfl (by kernel_rfl) (by kernel_rfl) (by kernel_rfl) (hH31.sub (.cons_cons _ (.cons_cons _ (.cons _ (List.Sublist.refl _))))) (fun w hS => run_ld Tryd.underlying31 rfl rfl (hS.cell (i := 1) rfl (elC_at _ (by omega)))) ?_
        refine AN.one 2 (by kernel_rfl) ?_
        refine AO.read rfl gnone rfl hH31 (.cons_cons _ (.cons_cons _ (.cons _ (List.Sublist.refl _)))) (run_ld Tryd.underlying31 rfl rfl (hH31.cell (i := 2) rfl (elC_at _ (by omega)))) ?_
        refine AN.take 6 rfl rfl (by kernel_rfl) (by kernel_rfl) (by kernel_rfl) (hH31.sub (.cons_cons _ (.cons_cons _ (.cons _ (List.Sublist.refl _))))) (fun w hS => run_orU rfl rfl) ?_
        refine AN.take 7 rfl rfl (by kernel_rfl) (by kernel_rfl) (by kernel_rfl) (hH31.sub (.cons_cons _ (.cons_cons _ (.cons _ (List.Sublist.refl _))))) (fun w hS => run_indexAddrA Tryd.underlying40 Tryd.sizeOf31 e4_13 rfl (by omega)) ?_
        refine AN.one 8 (by kernel_rfl) ?_
        refine AO.set rfl gnone hH31 (j := 2) rfl (.cons_cons _ (.cons_cons _ (.cons _ (List.Sublist.refl _)))) (run_st rfl rfl (v := U _) rfl rfl rfl (hH31.blk (i := 2) rfl) (by rw [elC_size]; omega)) ?_
        intro w36 hH37
        simp only [List.set_cons_zero, List.set_cons_succ] at hH37
        rw [elC_put] at hH37
        refine AN.done (by kernel_rfl) ?_
        refine CW.region ?_
        refine RL.val rfl (run_add e8_13 rfl (by omega)) ?_
        refine RL.val rfl (run_move (v := I _) rfl) ?_
        refine RL.nil ?_
        refine ⟨(k + 1, _), ?_, ((((((((((((((((((((((((((fr13.u rfl).u rfl).u rfl).u rfl).u rfl).u rfl).u rfl).u rfl).u rfl).u rfl).u rfl).u rfl).u rfl).u rfl).u rfl).u rfl).u rfl).u rfl).u rfl).u rfl).u rfl).u rfl).u rfl).u rfl).u rfl).u rfl).u rfl, hH37, (congrArg I (by first | rfl | omega)), ?_, ?_, ?_⟩
        · ((try dsimp only); omega)
        · omega
        · omega
        · first | exact join_put4 hr h0 ‹_› ‹_› | exact join_putO hr h0 (fun hc => absurd hc.1 (by omega)) | exact join_putO hr h0 (fun hc => absurd hc.2 (by omega))
    · refine RL.gF rfl rfl (bF h17) rfl ?_
      refine RL.gF rfl rfl (bF h17) rfl ?_
      refine RL.gF rfl rfl (bF h17) rfl ?_
      refine RL.gF rfl rfl (bF h17) rfl ?_
      refine RL.gF rfl rfl (bF h17) rfl ?_
      refine RL.gF rfl rfl (bF h17) rfl ?_
      refine RL.gF rfl rfl (bF h17) rfl ?_
      refine RL.val rfl (run_pickF (bF h17) (v := B false) rfl) ?_
      refine RL.nil ?_
      refine CW.condF rfl ?_
      refine CW.skip ?_
      refine CW.regionS (by kernel_rfl) hH13 (.cons_cons _ (.cons_cons _ (.cons _ (List.Sublist.refl _)))) ?_
      intro w38 hH39
      refine AN.take 0 rfl rfl (by kernel_rfl) (by kernel_rfl) (by kernel_rfl) (hH39.sub (.cons_cons _ (.cons_cons _ (.cons _ (List.Sublist.refl _))))) (fun w hS => run_move (v := I _) rfl) ?_
      refine AN.take 1 rfl rfl (by kernel_rfl) (by kernel_rfl) (by kernel_rfl) (hH39.sub (.cons_cons _ (.cons_cons _ (.cons _ (List.Sublist.refl _))))) (fun w hS => run_indexAddrA Tryd.underlying40 Tryd.sizeOf31 e4_13 rfl (by omega)) ?_
      refine AN.take 3 rfl rfl (by kernel_rfl) (by kernel_rfl) (by kernel_rfl) (hH39.sub (.cons_cons _ (.cons_cons _ (.cons _ (List.Sublist.refl _))))) (fun w hS => run_move (v := I _) rfl) ?_
      refine AN.take 4 rfl rfl (by kernel_rfl) (by kernel_rfl) (by kernel_rfl) (hH39.sub (.cons_cons _ (.cons_cons _ (.cons _ (List.Sublist.refl _))))) (fun w hS => run_indexAddrA Tryd.underlying40 Tryd.sizeOf31 e5_13 rfl (by omega)) ?_
      refine AN.take 5 rfl rfl (by kernel_rfl) (by kernel_rfl) (by kernel_rfl) (hH39.sub (.cons_cons _ (.cons_cons _ (.cons _ (List.Sublist.refl _))))) (fun w hS => run_ld Tryd.underlying31 rfl rfl (hS.cell (i := 1) rfl (elC_at _ (by omega)))) ?_
      refine AN.one 2 (by kernel_rfl) ?_
      refine AO.read rfl gnone rfl hH39 (.cons_cons _ (.cons_cons _ (.cons _ (List.Sublist.refl _)))) (run_ld Tryd.underlying31 rfl rfl (hH39.cell (i := 2) rfl (elC_at _ (by omega)))) ?_
      refine AN.take 6 rfl rfl (by kernel_rfl) (by kernel_rfl) (by kernel_rfl) (hH39.sub (.cons_cons _ (.cons_cons _ (.cons _ (List.Sublist.refl _))))) (fun w hS => run_orU rfl rfl) ?_
      refine AN.take 7 rfl rfl (by kernel_rfl) (by kernel_rfl) (by kernel_rfl) (hH39.sub (.cons_cons _ (.cons_cons _ (.cons _ (List.Sublist.refl _))))) (fun w hS => run_indexAddrA Tryd.underlying40 Tryd.sizeOf31 e4_13 rfl (by omega)) ?_
      refine AN.one 8 (by kernel_rfl) ?_
      refine AO.set rfl gnone hH39 (j := 2) rfl (.cons_cons _ (.cons_cons _ (.cons _ (List.Sublist.refl _)))) (run_st rfl rfl (v := U _) rfl rfl rfl (hH39.blk (i := 2) rfl) (by rw [elC_size]; omega)) ?_
      intro w44 hH45
      simp only [List.set_cons_zero, List.set_cons_succ] at hH45
      rw [elC_put] at hH45
      refine AN.done (by kernel_rfl) ?_
      refine CW.region ?_
      refine RL.val rfl (run_add e8_13 rfl (by omega)) ?_
      refine RL.val rfl (run_move (v := I _) rfl) ?_
      refine RL.nil ?_
      refine ⟨(k + 1, _), ?_, ((((((((((((((((((((((((((fr13.u rfl).u rfl).u rfl).u rfl).u rfl).u rfl).u rfl).u rfl).u rfl).u rfl).u rfl).u rfl).u rfl).u rfl).u rfl).u rfl).u rfl).u rfl).u rfl).u rfl).u rfl).u rfl).u rfl).u rfl).u rfl).u rfl).u rfl, hH45, (congrArg I (by first | rfl | omega)), ?_, ?_, ?_⟩
      · ((try dsimp only); omega)
      · omega
      · omega
      · first | exact join_put4 hr h0 ‹_› ‹_› | exact join_putO hr h0 (fun hc => absurd hc.1 (by omega)) | exact join_putO hr h0 (fun hc => absurd hc.2 (by omega))
  · refine CW.exit (id := 0) rfl ?_
    refine CW.seq ?_
    refine CW.region ?_
    refine RL.val rfl (run_ldEl Tryd.underlying40 rfl rfl e4_13 (hH13.blk (i := 2) rfl)) ?_
    refine RL.set hH13 (i := 0) rfl (run_stEl rfl e6_13 rfl (hH13.blk (i := 0) rfl)) ?_
    intro w46 hH47
    simp only [List.set_cons_zero, List.set_cons_succ] at hH47
    refine RL.nil ?_
    refine CW.ret ?_
    refine outCg Tryd.results15 e6_13 hH47 (i := 0) rfl Tryd.underlying40 rfl (by rw [elC_size]; rfl) ⟨?_, hH47.below⟩
    (exact congrArg Value.agg (elC_congr (by rw [hr]; exact mix_all ‹_›)))

theorem c_shape_Meet (a b : El) (w : World) : Calls Tryd.prog 17 #[.agg (elC a), .agg (elC b)] w (Pure (.agg (elC (meetE a b))) w) := by
  refine enter Tryd.func17 rfl Tryd.ntmps17 rfl ?_
  have hH := Hp.start w
  refine CW.seq ?_
  refine CW.region ?_
  refine RL.new rfl hH (f := fun b => (.pointer (some ⟨b, 0, none⟩))) (run_box (v := .agg _) rfl) ?_
  intro b3 w1 hH2
  refine RL.new rfl hH2 (f := fun b => (.pointer (some ⟨b, 0, none⟩))) (run_box (v := .agg _) rfl) ?_
  intro b6 w4 hH5
  refine RL.new rfl hH5 (f := fun b => (.pointer (some ⟨b, 0, none⟩))) (run_alloc zero_el) ?_
  intro b9 w7 hH8
  refine RL.nil ?_
  refine CW.seq ?_
  refine CW.seq ?_
  refine CW.region ?_
  refine RL.val rfl (run_move (v := I 0) rfl) ?_
  refine RL.nil ?_
  refine CW.block ?_
  refine CW.loop (G := (Int) × (El)) (fun (⟨k, e1⟩ : (Int) × (El)) s' w' => (Fr [5, 6, 7, 8, 9, 10, 11, 12, 13, 14, 15, 16, 17] _ s') ∧ (Hp w w' (_ :: _ :: .blk b3 (.cells (elC e1) 40 (0, 0)) :: _)) ∧ (s' 6 = I k) ∧ (0 ≤ k) ∧ (k ≤ 8) ∧ (e1 = mixE (meetE a b) a k)) (fun (⟨k, e1⟩ : (Int) × (El)) => (8 - k).toNat) ((0, a)) ⟨Fr.refl _ _, hH8, rfl, (by omega), (by omega), (mix_zero _ _).symm⟩ ?_
  rintro ⟨k, e1⟩ sg10 w10 ⟨fr10, hH10, e6_10, h0, hk, hr⟩
  have e2_10 : sg10 2 = .pointer (some ⟨_, _, none⟩) := (fr10 2 rfl).trans rfl
  have e3_10 : sg10 3 = .pointer (some ⟨_, _, none⟩) := (fr10 3 rfl).trans rfl
  have e4_10 : sg10 4 = .pointer (some ⟨_, _, none⟩) := (fr10 4 rfl).trans rfl
  refine CW.seq ?_
  refine CW.region ?_
  refine RL.val rfl (run_lss e6_10 rfl) ?_
  refine RL.nil ?_
  refine CW.seq ?_
  refine CW.condP rfl (fun h12 => ?_) (fun h12 => ?_)
  · refine CW.skip ?_
    refine CW.seq ?_
    refine CW.block ?_
    refine CW.seq ?_
    refine CW.region ?_
    refine RL.val rfl (run_move e6_10) ?_
    refine RL.val rfl (run_assign (v := I _) rfl) ?_
    refine RL.nil ?_
    refine CW.regionS (by kernel_rfl) hH10 (.cons_cons _ (.cons_cons _ (.cons _ (List.Sublist.refl _)))) ?_
    intro w13 hH14
    refine AN.take 0 rfl rfl (by kernel_rfl) (by kernel_rfl) (by kernel_rfl) (hH14.sub (.cons_cons _ (.cons_cons _ (.cons _ (List.Sublist.refl _))))) (fun w hS => run_move (v := I _) rfl) ?_
    refine AN.take 1 rfl rfl (by kernel_rfl) (by kernel_rfl) (by kernel_rfl) (hH14.sub (.cons_cons _ (.cons_cons _ (.cons _ (List.Sublist.refl _))))) (fun w hS => run_indexAddrA Tryd.underlying40 Tryd.sizeOf31 e2_10 rfl (by omega)) ?_
    refine AN.take 3 rfl rfl (by kernel_rfl) (by kernel_rfl) (by kernel_rfl) (hH14.sub (.cons_cons _ (.cons_cons _ (.cons _ (List.Sublist.refl _))))) (fun w hS => run_move (v := I _) rfl) ?_
    refine AN.take 4 rfl rfl (by kernel_rfl) (by kernel_rfl) (by kernel_rfl) (hH14.sub (.cons_cons _ (.cons_cons _ (.cons _ (List.Sublist.refl _))))) (fun w hS => run_indexAddrA Tryd.underlying40 Tryd.sizeOf31 e3_10 rfl (by omega)) ?_
    refine AN.take 5 rfl rfl (by kernel_rfl) (by kernel_rfl) (by kernel_rfl) (hH14.sub (.cons_cons _ (.cons_cons _ (.cons _ (List.Sublist.refl _))))) (fun w hS => run_ld Tryd.underlying31 rfl rfl (hS.cell (i := 1) rfl (elC_at _ (by omega)))) ?_
    refine AN.one 2 (by kernel_rfl) ?_
    refine AO.read rfl gnone rfl hH14 (.cons_cons _ (.cons_cons _ (.cons _ (List.Sublist.refl _)))) (run_ld Tryd.underlying31 rfl rfl (hH14.cell (i := 2) rfl (elC_at _ (by omega)))) ?_
    refine AN.take 6 rfl rfl (by kernel_rfl) (by kernel_rfl) (by kernel_rfl) (hH14.sub (.cons_cons _ (.cons_cons _ (.cons _ (List.Sublist.refl _))))) (fun w hS => run_andU rfl rfl) ?_
    refine AN.take 7 rfl rfl (by kernel_rfl) (by kernel_rfl) (by kernel_rfl) (hH14.sub (.cons_cons _ (.cons_cons _ (.cons _ (List.Sublist.refl _))))) (fun w hS => run_indexAddrA Tryd.underlying40 Tryd.sizeOf31 e2_10 rfl (by omega)) ?_
    refine AN.one 8 (by kernel_rfl) ?_
    refine AO.set rfl gnone hH14 (j := 2) rfl (.cons_cons _ (.cons_cons _ (.cons _ (List.Sublist.refl _)))) (run_st rfl rfl (v := U _) rfl rfl rfl (hH14.blk (i := 2) rfl) (by rw [elC_size]; omega)) ?_
    intro w19 hH20
    simp only [List.set_cons_zero, List.set_cons_succ] at hH20
    rw [elC_put] at hH20
    refine AN.done (by kernel_rfl) ?_
    refine CW.region ?_
    refine RL.val rfl (run_add e6_10 rfl (by omega)) ?_
    refine RL.val rfl (run_move (v := I _) rfl) ?_
    refine RL.nil ?_
    refine ⟨(k + 1, _), ?_, ((((((((((((fr10.u rfl).u rfl).u rfl).u rfl).u rfl).u rfl).u rfl).u rfl).u rfl).u rfl).u rfl).u rfl).u rfl, hH20, (congrArg I (by first | rfl | omega)), ?_, ?_, ?_⟩
    · ((try dsimp only); omega)
    · omega
    · omega
    · exact meet_put hr h0
  · refine CW.exit (id := 0) rfl ?_
    refine CW.seq ?_
    refine CW.region ?_
    refine RL.val rfl (run_ldEl Tryd.underlying40 rfl rfl e2_10 (hH10.blk (i := 2) rfl)) ?_
    refine RL.set hH10 (i := 0) rfl (run_stEl rfl e4_10 rfl (hH10.blk (i := 0) rfl)) ?_
    intro w21 hH22
    simp only [List.set_cons_zero, List.set_cons_succ] at hH22
    refine RL.nil ?_
    refine CW.ret ?_
    refine outCg Tryd.results17 e4_10 hH22 (i := 0) rfl Tryd.underlying40 rfl (by rw [elC_size]; rfl) ⟨?_, hH22.below⟩
    (exact congrArg Value.agg (elC_congr (by rw [hr]; exact mix_all ‹_›)))

theorem c_shape_each (s : Shp) (fi : FuncId) (gg : Fc → BitVec 64) (w : World) (hs : ShpV (Kw w) s) (hf : ∀ args w, (callFunc fi args).run Tryd.prog w = .ok (.enter fi args) w) (go : ∀ f w', FacV (Kw w') f → Tab w' → Calls Tryd.prog fi #[.agg (facC f)] w' (Pure (U (gg f.fc)) w')) (hT : Tab w) : Calls Tryd.prog 23 #[.agg (shpC s), .func (.func fi) #[] #[]] w (Pure (.agg (elC (eachS s.sh gg))) w) := by
  have hsl := sh_len s
  have hm := hs.facs.sl.small
  unfold maxLen at hm
  refine enter Tryd.func23 rfl Tryd.ntmps23 rfl ?_
  have hH := Hp.start w
  refine CW.seq ?_
  refine CW.region ?_
  refine RL.new rfl hH (f := fun b => (.pointer (some ⟨b, 0, none⟩))) (run_box (v := .agg _) rfl) ?_
  intro b3 w1 hH2
  refine RL.new rfl hH2 (f := fun b => (.pointer (some ⟨b, 0, none⟩))) (run_alloc zero_el) ?_
  intro b6 w4 hH5
  refine RL.nil ?_
  refine CW.seq ?_
  refine CW.region ?_
  refine RL.new rfl hH5 (f := fun b => (.pointer (some ⟨b, 0, none⟩))) (run_alloc zero_el) ?_
  intro b9 w7 hH8
  refine RL.nil ?_
  refine CW.seq ?_
  refine CW.seq ?_
  refine CW.region ?_
  refine RL.val rfl (run_ldA (cs := [B _, _]) Tryd.underlying24 rfl rfl rfl (rangeAt_cells (hH8.blk (i := 2) rfl))) ?_
  refine RL.callP rfl hH8 (c_shape_Right _  _ (hs.mono hH8.kw) (hT.hp hH8)) (run_call1 Tryd.call11 rfl) ?_
  intro w10 hH11
  refine RL.nil ?_
  refine CW.cond rfl (fun h13 => ?_) (fun h13 => ?_)
  · refine CW.seq ?_
    refine CW.region ?_
    refine RL.val rfl (run_fieldAddr Tryd.underlying24 rfl (off := 1) rfl Tryd.sizeOf22 (by decide) rfl) ?_
    refine RL.val rfl (run_ld Tryd.underlying22 rfl rfl (hH11.cell (i := 2) rfl rfl)) ?_
    refine RL.val rfl (run_lenSl (hs.facs.sl.hp hH11) rfl Tryd.underlying22 rfl) ?_
    refine RL.val rfl (run_move (v := I 0) rfl) ?_
    refine RL.nil ?_
    refine CW.block ?_
    have hln := (sh_spec ‹shR s.sh = true›).1
    refine CW.loop (G := (Int) × (El)) (fun (⟨k, e1⟩ : (Int) × (El)) s' w' => (Fr [6, 7, 13, 14, 15, 16, 17, 18, 19, 20, 21, 22, 23] _ s') ∧ (Hp w w' (.blk b9 (.cells (elC e1) 40 (0, 0)) :: _)) ∧ (s' 13 = I k) ∧ (0 ≤ k) ∧ (k ≤ s.facs.length) ∧ (e1 = mixE (eachS s.sh gg) el0 k)) (fun (⟨k, e1⟩ : (Int) × (El)) => (s.facs.length - k).toNat) ((0, el0)) ⟨Fr.refl _ _, hH11, rfl, (by omega), (by omega), (mix_zero _ _).symm⟩ ?_
    rintro ⟨k, e1⟩ sg14 w14 ⟨fr14, hH14, e13_14, h0, hk, hr⟩
    have e1_14 : sg14 1 = .func _ _ _ := (fr14 1 rfl).trans rfl
    have e4_14 : sg14 4 = .pointer (some ⟨_, _, none⟩) := (fr14 4 rfl).trans rfl
    have e5_14 : sg14 5 = .pointer (some ⟨_, _, none⟩) := (fr14 5 rfl).trans rfl
    have e11_14 := (fr14 11 rfl).trans (by conv => lhs; whnf)
    have e12_14 : sg14 12 = I _ := (fr14 12 rfl).trans rfl
    refine CW.seq ?_
    refine CW.region ?_
    refine RL.val rfl (run_lss e13_14 e12_14) ?_
    refine RL.nil ?_
    refine CW.seq ?_
    refine CW.condP rfl (fun h16 => ?_) (fun h16 => ?_)
    · refine CW.skip ?_
      refine CW.seq ?_
      refine CW.block ?_
      refine CW.seq ?_
      refine CW.region ?_
      refine RL.val rfl (run_move e13_14) ?_
      refine RL.val rfl (run_indexAddrS (hs.facs.sl.hp hH14) Tryd.underlying22 Tryd.sizeOf36 e11_14 e13_14 (by omega)) ?_
      refine RL.val rfl (run_ldE (dv := fac0) facL_len (hs.facs.sl.hp hH14) Tryd.underlying36 rfl rfl rfl (by omega)) ?_
      refine RL.new rfl hH14 (f := fun b => (.pointer (some ⟨b, 0, none⟩))) (run_alloc zero_fac) ?_
      intro b19 w17 hH18
      refine RL.val rfl (run_assign (v := I _) rfl) ?_
      refine RL.set hH18 (i := 0) rfl (run_stFac (hs.at (by omega) (by omega)) rfl rfl rfl (hH18.blk (i := 0) rfl)) ?_
      intro w20 hH21
      simp only [List.set_cons_zero, List.set_cons_succ] at hH21
      refine RL.nil ?_
      refine CW.region ?_
      refine RL.val rfl (run_move (v := I _) rfl) ?_
      refine RL.val rfl (run_move e1_14) ?_
      refine RL.val rfl (run_ldFac Tryd.underlying36 rfl rfl rfl (hH21.blk (i := 0) rfl)) ?_
      refine RL.callP rfl hH21 (go _ _ ((hs.at (by omega) (by omega)).mono hH21.kw) (hT.hp hH21)) (run_callC1 hf (cs := []) rfl rfl) ?_
      intro w22 hH23
      refine RL.val rfl (run_indexAddrA Tryd.underlying40 Tryd.sizeOf31 e5_14 rfl (by omega)) ?_
      refine RL.set hH23 (i := 1) rfl (run_st rfl rfl (v := U _) rfl rfl rfl (hH23.blk (i := 1) rfl) (by rw [elC_size]; omega)) ?_
      intro w24 hH25
      simp only [List.set_cons_zero, List.set_cons_succ] at hH25
      rw [elC_put] at hH25
      refine RL.nil ?_
      refine CW.region ?_
      refine RL.val rfl (run_add e13_14 rfl (by omega)) ?_
      refine RL.val rfl (run_move (v := I _) rfl) ?_
      refine RL.nil ?_
      refine ⟨(k + 1, _), ?_, ((((((((((((fr14.u rfl).u rfl).u rfl).u rfl).u rfl).u rfl).u rfl).u rfl).u rfl).u rfl).u rfl).u rfl).u rfl, (hH25.sub (.cons _ (List.Sublist.refl _))), (congrArg I (by first | rfl | omega)), ?_, ?_, ?_⟩
      · ((try dsimp only); omega)
      · omega
      · omega
      · (have hp := each_put ‹shR s.sh = true› hr h0 (show k < s.sh.facs.length by omega); rw [sh_get] at hp; exact hp)
    · refine CW.exit (id := 0) rfl ?_
      refine CW.seq ?_
      refine CW.region ?_
      refine RL.val rfl (run_ldEl Tryd.underlying40 rfl rfl e5_14 (hH14.blk (i := 0) rfl)) ?_
      refine RL.set hH14 (i := 1) rfl (run_stEl rfl e4_14 rfl (hH14.blk (i := 1) rfl)) ?_
      intro w26 hH27
      simp only [List.set_cons_zero, List.set_cons_succ] at hH27
      refine RL.nil ?_
      refine CW.ret ?_
      refine outCg Tryd.results23 e4_14 hH27 (i := 1) rfl Tryd.underlying40 rfl (by rw [elC_size]; rfl) ⟨?_, hH27.below⟩
      first | exact congrArg Value.agg (elC_congr (by rw [hr]; exact each_all (by omega))) | exact congrArg Value.agg (elC_congr (each_no ‹_›))
  · refine CW.skip ?_
    refine CW.seq ?_
    refine CW.region ?_
    refine RL.val rfl (run_ldEl Tryd.underlying40 rfl rfl rfl (hH11.blk (i := 0) rfl)) ?_
    refine RL.set hH11 (i := 1) rfl (run_stEl rfl rfl rfl (hH11.blk (i := 1) rfl)) ?_
    intro w28 hH29
    simp only [List.set_cons_zero, List.set_cons_succ] at hH29
    refine RL.nil ?_
    refine CW.ret ?_
    refine outCg Tryd.results23 rfl hH29 (i := 1) rfl Tryd.underlying40 rfl (by rw [elC_size]; rfl) ⟨?_, hH29.below⟩
    first | exact congrArg Value.agg (elC_congr (by rw [hr]; exact each_all (by omega))) | exact congrArg Value.agg (elC_congr (each_no ‹_›))

theorem c_shape_least (f : Fac) (w : World) (hf : FacV (Kw w) f) (hT : Tab w) : Calls Tryd.prog 24 #[.agg (facC f)] w (Pure (U (leastF f.fc)) w) := by
  refine enter Tryd.func24 rfl Tryd.ntmps24 rfl ?_
  have hH := Hp.start w
  refine CW.seq ?_
  refine CW.region ?_
  refine RL.new rfl hH (f := fun b => (.pointer (some ⟨b, 0, none⟩))) (run_box (v := .agg _) rfl) ?_
  intro b3 w1 hH2
  refine RL.val rfl (run_assign (v := U 0#64) rfl) ?_
  refine RL.nil ?_
  refine CW.seq ?_
  refine CW.seq ?_
  refine CW.region ?_
  refine RL.val rfl (run_fieldAddr Tryd.underlying36 rfl (off := 0) rfl Tryd.sizeOf3 (by decide) rfl) ?_
  refine RL.val rfl (run_ld Tryd.underlying3 rfl rfl (hH2.cell (i := 0) rfl (v := I _) rfl)) ?_
  refine RL.val rfl (run_neq rfl rfl) ?_
  refine RL.nil ?_
  refine CW.condP rfl (fun h5 => ?_) (fun h5 => ?_)
  · refine CW.seq ?_
    refine CW.region ?_
    refine RL.val rfl (run_assign (v := U 0#64) rfl) ?_
    refine RL.nil ?_
    refine CW.ret ?_
    refine outP1 Tryd.results24 (congrArg U ?_) hH2.below
    first | exact (if_pos (show f.fc.kind ≠ 4 from ‹_›)).symm | exact (if_neg (show ¬ f.fc.kind ≠ 4 from ‹_›)).symm
  · refine CW.skip ?_
    refine CW.seq ?_
    refine CW.region ?_
    refine RL.val rfl (run_fieldAddr Tryd.underlying36 rfl (off := 2) rfl Tryd.sizeOf34 (by decide) rfl) ?_
    refine RL.val rfl (run_ldBR Tryd.underlying34 rfl rfl rfl (hH2.blk (i := 0) rfl)) ?_
    refine RL.callP rfl hH2 (c_hasse_Bottom _  _ (hT.hp hH2)) (run_call1 Tryd.call35 rfl) ?_
    intro w6 hH7
    refine RL.val rfl (run_move (by conv => lhs; whnf)) ?_
    refine RL.val rfl (run_extract rfl (v := I _) rfl) ?_
    refine RL.val rfl (run_extract rfl (v := B _) rfl) ?_
    refine RL.val rfl (run_assign (v := I _) rfl) ?_
    refine RL.val rfl (run_assign (v := B _) rfl) ?_
    refine RL.nil ?_
    refine CW.seq ?_
    refine CW.region ?_
    refine RL.val rfl (run_fieldAddr Tryd.underlying36 rfl (off := 2) rfl Tryd.sizeOf34 (by decide) rfl) ?_
    refine RL.val rfl (run_ldBR Tryd.underlying34 rfl rfl rfl (hH7.blk (i := 0) rfl)) ?_
    refine RL.val rfl (run_move (v := I _) rfl) ?_
    refine RL.callP rfl hH7 (c_hasse_Word _ _  _ (hT.hp hH7)) (run_call2 Tryd.call36 rfl rfl) ?_
    intro w9 hH10
    refine RL.val rfl (run_assign (v := U _) rfl) ?_
    refine RL.nil ?_
    refine CW.ret ?_
    refine outP1 Tryd.results24 (congrArg U ?_) hH10.below
    first | exact (if_pos (show f.fc.kind ≠ 4 from ‹_›)).symm | exact (if_neg (show ¬ f.fc.kind ≠ 4 from ‹_›)).symm

theorem c_shape_greatest (f : Fac) (w : World) (hf : FacV (Kw w) f) (hT : Tab w) : Calls Tryd.prog 26 #[.agg (facC f)] w (Pure (U (greatF f.fc)) w) := by
  have hm := hf.names.sl.small
  unfold maxLen at hm
  refine enter Tryd.func26 rfl Tryd.ntmps26 rfl ?_
  have hH := Hp.start w
  refine CW.seq ?_
  refine CW.region ?_
  refine RL.new rfl hH (f := fun b => (.pointer (some ⟨b, 0, none⟩))) (run_box (v := .agg _) rfl) ?_
  intro b3 w1 hH2
  refine RL.val rfl (run_assign (v := U 0#64) rfl) ?_
  refine RL.nil ?_
  refine CW.seq ?_
  refine CW.seq ?_
  refine CW.region ?_
  refine RL.val rfl (run_fieldAddr Tryd.underlying36 rfl (off := 0) rfl Tryd.sizeOf3 (by decide) rfl) ?_
  refine RL.val rfl (run_ld Tryd.underlying3 rfl rfl (hH2.cell (i := 0) rfl (v := I _) rfl)) ?_
  refine RL.nil ?_
  refine CW.block ?_
  refine CW.seq ?_
  refine CW.region ?_
  refine RL.val rfl (run_eql rfl rfl) ?_
  refine RL.val rfl (run_assign (v := B _) rfl) ?_
  refine RL.nil ?_
  refine CW.condP rfl (fun h5 => ?_) (fun h5 => ?_)
  · refine CW.seq ?_
    refine CW.region ?_
    refine RL.val rfl (run_fieldAddr Tryd.underlying36 rfl (off := 1) rfl Tryd.sizeOf30 (by decide) rfl) ?_
    refine RL.val rfl (run_ld Tryd.underlying30 rfl rfl (hH2.cell (i := 0) rfl rfl)) ?_
    refine RL.val rfl (run_lenSl (hf.names.sl.hp hH2) rfl Tryd.underlying30 rfl) ?_
    refine RL.callP rfl hH2 (c_rung_Top _  _) (run_call1 Tryd.call41 rfl) ?_
    intro w6 hH7
    refine RL.val rfl (run_assign (v := U _) rfl) ?_
    refine RL.nil ?_
    refine CW.ret ?_
    refine outP1 Tryd.results26 (congrArg U ?_) hH7.below
    first | (unfold greatF; rw [if_pos (show f.fc.kind = 1 from ‹_›)]; rfl) | (unfold greatF; rw [if_neg (show ¬ f.fc.kind = 1 from ‹_›), if_pos (show f.fc.kind = 2 from ‹_›)]; rfl) | (unfold greatF; rw [if_neg (show ¬ f.fc.kind = 1 from ‹_›), if_neg (show ¬ f.fc.kind = 2 from ‹_›), if_pos (show f.fc.kind = 3 from ‹_›)]; rfl) | (unfold greatF; rw [if_neg (show ¬ f.fc.kind = 1 from ‹_›), if_neg (show ¬ f.fc.kind = 2 from ‹_›), if_neg (show ¬ f.fc.kind = 3 from ‹_›)]; rfl)
  · refine CW.seq ?_
    refine CW.region ?_
    refine RL.val rfl (run_eql rfl rfl) ?_
    refine RL.val rfl (run_assign (v := B _) rfl) ?_
    refine RL.nil ?_
    refine CW.condP rfl (fun h9 => ?_) (fun h9 => ?_)
    · refine CW.seq ?_
      refine CW.region ?_
      refine RL.val rfl (run_fieldAddr Tryd.underlying36 rfl (off := 1) rfl Tryd.sizeOf30 (by decide) rfl) ?_
      refine RL.val rfl (run_ld Tryd.underlying30 rfl rfl (hH2.cell (i := 0) rfl rfl)) ?_
      refine RL.val rfl (run_lenSl (hf.names.sl.hp hH2) rfl Tryd.underlying30 rfl) ?_
      refine RL.callP rfl hH2 (c_mask_Below _  _) (run_call1 Tryd.call38 rfl) ?_
      intro w10 hH11
      refine RL.val rfl (run_assign (v := U _) rfl) ?_
      refine RL.nil ?_
      refine CW.ret ?_
      refine outP1 Tryd.results26 (congrArg U ?_) hH11.below
      first | (unfold greatF; rw [if_pos (show f.fc.kind = 1 from ‹_›)]; rfl) | (unfold greatF; rw [if_neg (show ¬ f.fc.kind = 1 from ‹_›), if_pos (show f.fc.kind = 2 from ‹_›)]; rfl) | (unfold greatF; rw [if_neg (show ¬ f.fc.kind = 1 from ‹_›), if_neg (show ¬ f.fc.kind = 2 from ‹_›), if_pos (show f.fc.kind = 3 from ‹_›)]; rfl) | (unfold greatF; rw [if_neg (show ¬ f.fc.kind = 1 from ‹_›), if_neg (show ¬ f.fc.kind = 2 from ‹_›), if_neg (show ¬ f.fc.kind = 3 from ‹_›)]; rfl)
    · refine CW.seq ?_
      refine CW.region ?_
      refine RL.val rfl (run_eql rfl rfl) ?_
      refine RL.val rfl (run_assign (v := B _) rfl) ?_
      refine RL.nil ?_
      refine CW.condP rfl (fun h13 => ?_) (fun h13 => ?_)
      · refine CW.seq ?_
        refine CW.region ?_
        refine RL.val rfl (run_fieldAddr Tryd.underlying36 rfl (off := 2) rfl Tryd.sizeOf34 (by decide) rfl) ?_
        refine RL.val rfl (run_ldBR Tryd.underlying34 rfl rfl rfl (hH2.blk (i := 0) rfl)) ?_
        refine RL.callP rfl hH2 (c_grid_Top _  _) (run_call1 Tryd.call42 rfl) ?_
        intro w14 hH15
        refine RL.val rfl (run_assign (v := U _) rfl) ?_
        refine RL.nil ?_
        refine CW.ret ?_
        refine outP1 Tryd.results26 (congrArg U ?_) hH15.below
        first | (unfold greatF; rw [if_pos (show f.fc.kind = 1 from ‹_›)]; rfl) | (unfold greatF; rw [if_neg (show ¬ f.fc.kind = 1 from ‹_›), if_pos (show f.fc.kind = 2 from ‹_›)]; rfl) | (unfold greatF; rw [if_neg (show ¬ f.fc.kind = 1 from ‹_›), if_neg (show ¬ f.fc.kind = 2 from ‹_›), if_pos (show f.fc.kind = 3 from ‹_›)]; rfl) | (unfold greatF; rw [if_neg (show ¬ f.fc.kind = 1 from ‹_›), if_neg (show ¬ f.fc.kind = 2 from ‹_›), if_neg (show ¬ f.fc.kind = 3 from ‹_›)]; rfl)
      · refine CW.skip ?_
        refine CW.seq ?_
        refine CW.region ?_
        refine RL.val rfl (run_fieldAddr Tryd.underlying36 rfl (off := 2) rfl Tryd.sizeOf34 (by decide) rfl) ?_
        refine RL.val rfl (run_ldBR Tryd.underlying34 rfl rfl rfl (hH2.blk (i := 0) rfl)) ?_
        refine RL.callP rfl hH2 (c_hasse_Top _  _ (hT.hp hH2)) (run_call1 Tryd.call43 rfl) ?_
        intro w16 hH17
        refine RL.val rfl (run_move (by conv => lhs; whnf)) ?_
        refine RL.val rfl (run_extract rfl (v := I _) rfl) ?_
        refine RL.val rfl (run_extract rfl (v := B _) rfl) ?_
        refine RL.val rfl (run_assign (v := I _) rfl) ?_
        refine RL.val rfl (run_assign (v := B _) rfl) ?_
        refine RL.nil ?_
        refine CW.seq ?_
        refine CW.region ?_
        refine RL.val rfl (run_fieldAddr Tryd.underlying36 rfl (off := 2) rfl Tryd.sizeOf34 (by decide) rfl) ?_
        refine RL.val rfl (run_ldBR Tryd.underlying34 rfl rfl rfl (hH17.blk (i := 0) rfl)) ?_
        refine RL.val rfl (run_move (v := I _) rfl) ?_
        refine RL.callP rfl hH17 (c_hasse_Word _ _  _ (hT.hp hH17)) (run_call2 Tryd.call36 rfl rfl) ?_
        intro w19 hH20
        refine RL.val rfl (run_assign (v := U _) rfl) ?_
        refine RL.nil ?_
        refine CW.ret ?_
        refine outP1 Tryd.results26 (congrArg U ?_) hH20.below
        first | (unfold greatF; rw [if_pos (show f.fc.kind = 1 from ‹_›)]; rfl) | (unfold greatF; rw [if_neg (show ¬ f.fc.kind = 1 from ‹_›), if_pos (show f.fc.kind = 2 from ‹_›)]; rfl) | (unfold greatF; rw [if_neg (show ¬ f.fc.kind = 1 from ‹_›), if_neg (show ¬ f.fc.kind = 2 from ‹_›), if_pos (show f.fc.kind = 3 from ‹_›)]; rfl) | (unfold greatF; rw [if_neg (show ¬ f.fc.kind = 1 from ‹_›), if_neg (show ¬ f.fc.kind = 2 from ‹_›), if_neg (show ¬ f.fc.kind = 3 from ‹_›)]; rfl)

theorem c_shape_Bottom (s : Shp) (w : World) (hs : ShpV (Kw w) s) (hT : Tab w) : Calls Tryd.prog 12 #[.agg (shpC s)] w (Pure (.agg (elC (eachS s.sh leastF))) w) := by
  refine enter Tryd.func12 rfl Tryd.ntmps12 rfl ?_
  have hH := Hp.start w
  refine CW.seq ?_
  refine CW.region ?_
  refine RL.new rfl hH (f := fun b => (.pointer (some ⟨b, 0, none⟩))) (run_box (v := .agg _) rfl) ?_
  intro b3 w1 hH2
  refine RL.new rfl hH2 (f := fun b => (.pointer (some ⟨b, 0, none⟩))) (run_alloc zero_el) ?_
  intro b6 w4 hH5
  refine RL.nil ?_
  refine CW.seq ?_
  refine CW.region ?_
  refine RL.val rfl (run_ldA (cs := [B _, _]) Tryd.underlying24 rfl rfl rfl (rangeAt_cells (hH5.blk (i := 1) rfl))) ?_
  refine RL.callP rfl hH5 (c_shape_each s 24 leastF _ (hs.mono hH5.kw) Tryd.call24 (fun f w h ht => c_shape_least f w h ht) (hT.hp hH5)) (run_call2 Tryd.call23 rfl rfl) ?_
  intro w7 hH8
  refine RL.set hH8 (i := 0) rfl (run_stEl rfl rfl rfl (hH8.blk (i := 0) rfl)) ?_
  intro w9 hH10
  simp only [List.set_cons_zero, List.set_cons_succ] at hH10
  refine RL.nil ?_
  refine CW.ret ?_
  refine outCg Tryd.results12 rfl hH10 (i := 0) rfl Tryd.underlying40 rfl (by rw [elC_size]; rfl) ⟨?_, hH10.below⟩
  rfl

theorem c_shape_Top (s : Shp) (w : World) (hs : ShpV (Kw w) s) (hT : Tab w) : Calls Tryd.prog 14 #[.agg (shpC s)] w (Pure (.agg (elC (eachS s.sh greatF))) w) := by
  refine enter Tryd.func14 rfl Tryd.ntmps14 rfl ?_
  have hH := Hp.start w
  refine CW.seq ?_
  refine CW.region ?_
  refine RL.new rfl hH (f := fun b => (.pointer (some ⟨b, 0, none⟩))) (run_box (v := .agg _) rfl) ?_
  intro b3 w1 hH2
  refine RL.new rfl hH2 (f := fun b => (.pointer (some ⟨b, 0, none⟩))) (run_alloc zero_el) ?_
  intro b6 w4 hH5
  refine RL.nil ?_
  refine CW.seq ?_
  refine CW.region ?_
  refine RL.val rfl (run_ldA (cs := [B _, _]) Tryd.underlying24 rfl rfl rfl (rangeAt_cells (hH5.blk (i := 1) rfl))) ?_
  refine RL.callP rfl hH5 (c_shape_each s 26 greatF _ (hs.mono hH5.kw) Tryd.call26 (fun f w h ht => c_shape_greatest f w h ht) (hT.hp hH5)) (run_call2 Tryd.call23 rfl rfl) ?_
  intro w7 hH8
  refine RL.set hH8 (i := 0) rfl (run_stEl rfl rfl rfl (hH8.blk (i := 0) rfl)) ?_
  intro w9 hH10
  simp only [List.set_cons_zero, List.set_cons_succ] at hH10
  refine RL.nil ?_
  refine CW.ret ?_
  refine outCg Tryd.results14 rfl hH10 (i := 0) rfl Tryd.underlying40 rfl (by rw [elC_size]; rfl) ⟨?_, hH10.below⟩
  rfl

theorem c_shape_high (f : Fac) (w : World) (hf : FacV (Kw w) f) (hT : Tab w) : Calls Tryd.prog 28 #[.agg (facC f)] w (Pure (I (highF f.fc)) w) := by
  have hm := hf.names.sl.small
  unfold maxLen at hm
  refine enter Tryd.func28 rfl Tryd.ntmps28 rfl ?_
  have hH := Hp.start w
  refine CW.seq ?_
  refine CW.region ?_
  refine RL.new rfl hH (f := fun b => (.pointer (some ⟨b, 0, none⟩))) (run_box (v := .agg _) rfl) ?_
  intro b3 w1 hH2
  refine RL.val rfl (run_assign (v := I 0) rfl) ?_
  refine RL.nil ?_
  refine CW.seq ?_
  refine CW.seq ?_
  refine CW.region ?_
  refine RL.val rfl (run_fieldAddr Tryd.underlying36 rfl (off := 0) rfl Tryd.sizeOf3 (by decide) rfl) ?_
  refine RL.val rfl (run_ld Tryd.underlying3 rfl rfl (hH2.cell (i := 0) rfl (v := I _) rfl)) ?_
  refine RL.nil ?_
  refine CW.block ?_
  refine CW.seq ?_
  refine CW.region ?_
  refine RL.val rfl (run_eql rfl rfl) ?_
  refine RL.val rfl (run_assign (v := B _) rfl) ?_
  refine RL.nil ?_
  refine CW.condP rfl (fun h5 => ?_) (fun h5 => ?_)
  · refine CW.seq ?_
    refine CW.region ?_
    refine RL.val rfl (run_fieldAddr Tryd.underlying36 rfl (off := 1) rfl Tryd.sizeOf30 (by decide) rfl) ?_
    refine RL.val rfl (run_ld Tryd.underlying30 rfl rfl (hH2.cell (i := 0) rfl rfl)) ?_
    refine RL.val rfl (run_lenSl (hf.names.sl.hp hH2) rfl Tryd.underlying30 rfl) ?_
    refine RL.val rfl (run_sub rfl rfl (by omega)) ?_
    refine RL.val rfl (run_assign (v := I _) rfl) ?_
    refine RL.nil ?_
    refine CW.ret ?_
    refine outP1 Tryd.results28 (congrArg I ?_) hH2.below
    first | (unfold highF; rw [if_pos (show f.fc.kind = 1 from ‹_›)]; rfl) | (unfold highF; rw [if_neg (show ¬ f.fc.kind = 1 from ‹_›), if_pos (show f.fc.kind = 2 from ‹_›)]; rfl) | (unfold highF; rw [if_neg (show ¬ f.fc.kind = 1 from ‹_›), if_neg (show ¬ f.fc.kind = 2 from ‹_›), if_pos (show f.fc.kind = 3 from ‹_›)]; rfl) | (unfold highF; rw [if_neg (show ¬ f.fc.kind = 1 from ‹_›), if_neg (show ¬ f.fc.kind = 2 from ‹_›), if_neg (show ¬ f.fc.kind = 3 from ‹_›)]; rfl)
  · refine CW.seq ?_
    refine CW.region ?_
    refine RL.val rfl (run_eql rfl rfl) ?_
    refine RL.val rfl (run_assign (v := B _) rfl) ?_
    refine RL.nil ?_
    refine CW.condP rfl (fun h7 => ?_) (fun h7 => ?_)
    · refine CW.seq ?_
      refine CW.region ?_
      refine RL.val rfl (run_fieldAddr Tryd.underlying36 rfl (off := 1) rfl Tryd.sizeOf30 (by decide) rfl) ?_
      refine RL.val rfl (run_ld Tryd.underlying30 rfl rfl (hH2.cell (i := 0) rfl rfl)) ?_
      refine RL.val rfl (run_lenSl (hf.names.sl.hp hH2) rfl Tryd.underlying30 rfl) ?_
      refine RL.val rfl (run_assign (v := I _) rfl) ?_
      refine RL.nil ?_
      refine CW.ret ?_
      refine outP1 Tryd.results28 (congrArg I ?_) hH2.below
      first | (unfold highF; rw [if_pos (show f.fc.kind = 1 from ‹_›)]; rfl) | (unfold highF; rw [if_neg (show ¬ f.fc.kind = 1 from ‹_›), if_pos (show f.fc.kind = 2 from ‹_›)]; rfl) | (unfold highF; rw [if_neg (show ¬ f.fc.kind = 1 from ‹_›), if_neg (show ¬ f.fc.kind = 2 from ‹_›), if_pos (show f.fc.kind = 3 from ‹_›)]; rfl) | (unfold highF; rw [if_neg (show ¬ f.fc.kind = 1 from ‹_›), if_neg (show ¬ f.fc.kind = 2 from ‹_›), if_neg (show ¬ f.fc.kind = 3 from ‹_›)]; rfl)
    · refine CW.seq ?_
      refine CW.region ?_
      refine RL.val rfl (run_eql rfl rfl) ?_
      refine RL.val rfl (run_assign (v := B _) rfl) ?_
      refine RL.nil ?_
      refine CW.condP rfl (fun h9 => ?_) (fun h9 => ?_)
      · refine CW.seq ?_
        refine CW.region ?_
        refine RL.val rfl (run_fieldAddr Tryd.underlying36 rfl (off := 2) rfl Tryd.sizeOf34 (by decide) rfl) ?_
        refine RL.val rfl (run_ldBR Tryd.underlying34 rfl rfl rfl (hH2.blk (i := 0) rfl)) ?_
        refine RL.callP rfl hH2 (c_grid_Height _  _ (hT.hp hH2)) (run_call1 Tryd.call45 rfl) ?_
        intro w10 hH11
        refine RL.val rfl (run_assign (v := I _) rfl) ?_
        refine RL.nil ?_
        refine CW.ret ?_
        refine outP1 Tryd.results28 (congrArg I ?_) hH11.below
        first | (unfold highF; rw [if_pos (show f.fc.kind = 1 from ‹_›)]; rfl) | (unfold highF; rw [if_neg (show ¬ f.fc.kind = 1 from ‹_›), if_pos (show f.fc.kind = 2 from ‹_›)]; rfl) | (unfold highF; rw [if_neg (show ¬ f.fc.kind = 1 from ‹_›), if_neg (show ¬ f.fc.kind = 2 from ‹_›), if_pos (show f.fc.kind = 3 from ‹_›)]; rfl) | (unfold highF; rw [if_neg (show ¬ f.fc.kind = 1 from ‹_›), if_neg (show ¬ f.fc.kind = 2 from ‹_›), if_neg (show ¬ f.fc.kind = 3 from ‹_›)]; rfl)
      · refine CW.skip ?_
        refine CW.seq ?_
        refine CW.region ?_
        refine RL.val rfl (run_fieldAddr Tryd.underlying36 rfl (off := 2) rfl Tryd.sizeOf34 (by decide) rfl) ?_
        refine RL.val rfl (run_ldBR Tryd.underlying34 rfl rfl rfl (hH2.blk (i := 0) rfl)) ?_
        refine RL.callP rfl hH2 (c_relate_Long _  _ (hT.hp hH2)) (run_call1 Tryd.call46 rfl) ?_
        intro w12 hH13
        refine RL.val rfl (run_move (by conv => lhs; whnf)) ?_
        refine RL.val rfl (run_extract rfl (v := I _) rfl) ?_
        refine RL.val rfl (run_extract rfl (v := B _) rfl) ?_
        refine RL.val rfl (run_assign (v := I _) rfl) ?_
        refine RL.val rfl (run_assign (v := B _) rfl) ?_
        refine RL.nil ?_
        refine CW.seq ?_
        refine CW.region ?_
        refine RL.val rfl (run_move (v := I _) rfl) ?_
        refine RL.val rfl (run_assign (v := I _) rfl) ?_
        refine RL.nil ?_
        refine CW.ret ?_
        refine outP1 Tryd.results28 (congrArg I ?_) hH13.below
        first | (unfold highF; rw [if_pos (show f.fc.kind = 1 from ‹_›)]; rfl) | (unfold highF; rw [if_neg (show ¬ f.fc.kind = 1 from ‹_›), if_pos (show f.fc.kind = 2 from ‹_›)]; rfl) | (unfold highF; rw [if_neg (show ¬ f.fc.kind = 1 from ‹_›), if_neg (show ¬ f.fc.kind = 2 from ‹_›), if_pos (show f.fc.kind = 3 from ‹_›)]; rfl) | (unfold highF; rw [if_neg (show ¬ f.fc.kind = 1 from ‹_›), if_neg (show ¬ f.fc.kind = 2 from ‹_›), if_neg (show ¬ f.fc.kind = 3 from ‹_›)]; rfl)

theorem c_shape_Height (s : Shp) (w : World) (hs : ShpV (Kw w) s) (hT : Tab w) : Calls Tryd.prog 16 #[.agg (shpC s)] w (Pure (I (heightS s.sh)) w) := by
  have hsl := sh_len s
  have hm := hs.facs.sl.small
  unfold maxLen at hm
  refine enter Tryd.func16 rfl Tryd.ntmps16 rfl ?_
  have hH := Hp.start w
  refine CW.seq ?_
  refine CW.region ?_
  refine RL.new rfl hH (f := fun b => (.pointer (some ⟨b, 0, none⟩))) (run_box (v := .agg _) rfl) ?_
  intro b3 w1 hH2
  refine RL.val rfl (run_assign (v := I 0) rfl) ?_
  refine RL.nil ?_
  refine CW.seq ?_
  refine CW.region ?_
  refine RL.val rfl (run_assign (v := I 0) rfl) ?_
  refine RL.nil ?_
  refine CW.seq ?_
  refine CW.seq ?_
  refine CW.region ?_
  refine RL.val rfl (run_ldA (cs := [B _, _]) Tryd.underlying24 rfl rfl rfl (rangeAt_cells (hH2.blk (i := 0) rfl))) ?_
  refine RL.callP rfl hH2 (c_shape_Right _  _ (hs.mono hH2.kw) (hT.hp hH2)) (run_call1 Tryd.call11 rfl) ?_
  intro w4 hH5
  refine RL.nil ?_
  refine CW.cond rfl (fun h7 => ?_) (fun h7 => ?_)
  · refine CW.seq ?_
    refine CW.region ?_
    refine RL.val rfl (run_fieldAddr Tryd.underlying24 rfl (off := 1) rfl Tryd.sizeOf22 (by decide) rfl) ?_
    refine RL.val rfl (run_ld Tryd.underlying22 rfl rfl (hH5.cell (i := 0) rfl rfl)) ?_
    refine RL.val rfl (run_lenSl (hs.facs.sl.hp hH5) rfl Tryd.underlying22 rfl) ?_
    refine RL.val rfl (run_move (v := I 0) rfl) ?_
    refine RL.nil ?_
    refine CW.block ?_
    refine CW.loop (G := (Int)) (fun (k : Int) s' w' => (Fr [3, 5, 11, 12, 13, 14, 15, 16, 17, 18, 19] _ s') ∧ (Hp w w' _) ∧ (s' 3 = I (sumTo s.sh k)) ∧ (s' 11 = I k) ∧ (0 ≤ k) ∧ (k ≤ s.facs.length)) (fun (k : Int) => (s.facs.length - k).toNat) (0) ⟨Fr.refl _ _, hH5, rfl, rfl, (by omega), (by omega)⟩ ?_
    rintro k sg8 w8 ⟨fr8, hH8, e3_8, e11_8, h0, hk⟩
    have e2_8 : sg8 2 = I _ := (fr8 2 rfl).trans rfl
    have e9_8 := (fr8 9 rfl).trans (by conv => lhs; whnf)
    have e10_8 : sg8 10 = I _ := (fr8 10 rfl).trans rfl
    refine CW.seq ?_
    refine CW.region ?_
    refine RL.val rfl (run_lss e11_8 e10_8) ?_
    refine RL.nil ?_
    refine CW.seq ?_
    refine CW.condP rfl (fun h10 => ?_) (fun h10 => ?_)
    · refine CW.skip ?_
      refine CW.seq ?_
      refine CW.block ?_
      refine CW.seq ?_
      refine CW.region ?_
      refine RL.val rfl (run_indexAddrS (hs.facs.sl.hp hH8) Tryd.underlying22 Tryd.sizeOf36 e9_8 e11_8 (by omega)) ?_
      refine RL.val rfl (run_ldE (dv := fac0) facL_len (hs.facs.sl.hp hH8) Tryd.underlying36 rfl rfl rfl (by omega)) ?_
      refine RL.new rfl hH8 (f := fun b => (.pointer (some ⟨b, 0, none⟩))) (run_alloc zero_fac) ?_
      intro b13 w11 hH12
      refine RL.set hH12 (i := 0) rfl (run_stFac (hs.at (by omega) (by omega)) rfl rfl rfl (hH12.blk (i := 0) rfl)) ?_
      intro w14 hH15
      simp only [List.set_cons_zero, List.set_cons_succ] at hH15
      refine RL.nil ?_
      refine CW.region ?_
      refine RL.val rfl (run_move e3_8) ?_
      refine RL.val rfl (run_ldFac Tryd.underlying36 rfl rfl rfl (hH15.blk (i := 0) rfl)) ?_
      refine RL.callP rfl hH15 (c_shape_high _  _ ((hs.at (by omega) (by omega)).mono hH15.kw) (hT.hp hH15)) (run_call1 Tryd.call28 rfl) ?_
      intro w16 hH17
      refine RL.val rfl (run_add rfl rfl (by first | omega | (have := sum_bdI ‹shR s.sh = true› h0 (show k ≤ s.sh.facs.length by omega); have hhb := high_bd (sh_at ‹shR s.sh = true› h0 (show k < s.sh.facs.length by omega)); rw [sh_get] at hhb; omega))) ?_
      refine RL.val rfl (run_assign (v := I _) rfl) ?_
      refine RL.nil ?_
      refine CW.region ?_
      refine RL.val rfl (run_add e11_8 rfl (by first | omega | (have := sum_bdI ‹shR s.sh = true› h0 (show k ≤ s.sh.facs.length by omega); have hhb := high_bd (sh_at ‹shR s.sh = true› h0 (show k < s.sh.facs.length by omega)); rw [sh_get] at hhb; omega))) ?_
      refine RL.val rfl (run_move (v := I _) rfl) ?_
      refine RL.nil ?_
      refine ⟨k + 1, ?_, ((((((((((fr8.u rfl).u rfl).u rfl).u rfl).u rfl).u rfl).u rfl).u rfl).u rfl).u rfl).u rfl, (hH17.sub (.cons _ (List.Sublist.refl _))), (congrArg I (by rw [← sum_next h0, sh_get])), (congrArg I (by first | rfl | omega)), ?_, ?_⟩
      · ((try dsimp only); omega)
      · omega
      · omega
    · refine CW.exit (id := 0) rfl ?_
      refine CW.seq ?_
      refine CW.region ?_
      refine RL.val rfl (run_move e3_8) ?_
      refine RL.val rfl (run_assign (v := I _) rfl) ?_
      refine RL.nil ?_
      refine CW.ret ?_
      refine outP1 Tryd.results16 (congrArg I ?_) hH8.below
      first | exact (height_nil ‹_›).symm | exact height_is ‹_› (by omega)
  · refine CW.skip ?_
    refine CW.seq ?_
    refine CW.region ?_
    refine RL.val rfl (run_move (v := I _) rfl) ?_
    refine RL.val rfl (run_assign (v := I _) rfl) ?_
    refine RL.nil ?_
    refine CW.ret ?_
    refine outP1 Tryd.results16 (congrArg I ?_) hH5.below
    first | exact (height_nil ‹_›).symm | exact height_is ‹_› (by omega)

theorem c_clearancelaw07_Big (s : Shp) (w : World) (hs : ShpV (Kw w) s) : Calls Tryd.prog 6 #[.agg (shpC s)] w (Pure (B (bigS s.sh)) w) := by
  have hsl := sh_len s
  have hm := hs.facs.sl.small
  unfold maxLen at hm
  refine enter Tryd.func6 rfl Tryd.ntmps6 rfl ?_
  have hH := Hp.start w
  refine CW.seq ?_
  refine CW.region ?_
  refine RL.new rfl hH (f := fun b => (.pointer (some ⟨b, 0, none⟩))) (run_box (v := .agg _) rfl) ?_
  intro b3 w1 hH2
  refine RL.val rfl (run_assign (v := B false) rfl) ?_
  refine RL.nil ?_
  refine CW.seq ?_
  refine CW.seq ?_
  refine CW.region ?_
  refine RL.val rfl (run_fieldAddr Tryd.underlying24 rfl (off := 1) rfl Tryd.sizeOf22 (by decide) rfl) ?_
  refine RL.val rfl (run_ld Tryd.underlying22 rfl rfl (hH2.cell (i := 0) rfl rfl)) ?_
  refine RL.val rfl (run_lenSl (hs.facs.sl.hp hH2) rfl Tryd.underlying22 rfl) ?_
  refine RL.val rfl (run_gtr rfl rfl) ?_
  refine RL.nil ?_
  refine CW.condP rfl (fun h5 => ?_) (fun h5 => ?_)
  · refine CW.seq ?_
    refine CW.region ?_
    refine RL.val rfl (run_assign (v := B true) rfl) ?_
    refine RL.nil ?_
    refine CW.ret ?_
    refine outP1 Tryd.results6 (congrArg B ?_) hH2.below
    first | exact (big_1 (s := s.sh) (by omega)).symm | exact (big_2 (s := s.sh) (k := k) h0 (by omega) (by rw [sh_get]; first | exact bigN_1 (by show 70 < (s.facs.getD k.toNat fac0).names.length; omega) | exact bigN_2 i0 ‹_› (by show 40 < ((s.facs.getD k.toNat fac0).names.getD i.toNat tx0).size; omega))).symm | exact (big_no (s := s.sh) (k := k) (by omega) (by omega) fun j a b => by rw [sh_get]; exact hg j a b).symm
  · refine CW.skip ?_
    refine CW.seq ?_
    refine CW.seq ?_
    refine CW.region ?_
    refine RL.val rfl (run_assign (v := I 0) rfl) ?_
    refine RL.nil ?_
    refine CW.block ?_
    refine CW.loop (G := (Int)) (fun (k : Int) s' w' => (Fr [2, 3, 4, 5, 10, 11, 12, 13, 14, 15, 16, 17, 18, 19, 20, 21, 22, 23, 24, 25, 26, 27, 28, 29, 30, 31, 32, 33, 34, 35, 36, 37, 38, 39] _ s') ∧ (Hp w w' _) ∧ (s' 3 = I k) ∧ (0 ≤ k) ∧ (k ≤ s.facs.length) ∧ (∀ j : Int, 0 ≤ j → j < k → bigN (s.facs.getD j.toNat fac0).names = false)) (fun (k : Int) => (s.facs.length - k).toNat) (0) ⟨Fr.refl _ _, hH2, rfl, (by omega), (by omega), fun j a b => absurd b (by omega)⟩ ?_
    rintro k sg6 w6 ⟨fr6, hH6, e3_6, h0, hk, hg⟩
    have e1_6 : sg6 1 = .pointer (some ⟨_, _, none⟩) := (fr6 1 rfl).trans rfl
    refine CW.seq ?_
    refine CW.seq ?_
    refine CW.region ?_
    refine RL.val rfl (run_move e3_6) ?_
    refine RL.val rfl (run_fieldAddr Tryd.underlying24 rfl (off := 1) rfl Tryd.sizeOf22 (by decide) e1_6) ?_
    refine RL.val rfl (run_ld Tryd.underlying22 rfl rfl (hH6.cell (i := 0) rfl rfl)) ?_
    refine RL.val rfl (run_lenSl (hs.facs.sl.hp hH6) rfl Tryd.underlying22 rfl) ?_
    refine RL.val rfl (run_lss rfl rfl) ?_
    refine RL.nil ?_
    refine CW.condP rfl (fun h8 => ?_) (fun h8 => ?_)
    · refine CW.skip ?_
      refine CW.seq ?_
      refine CW.block ?_
      refine CW.seq ?_
      refine CW.region ?_
      refine RL.val rfl (run_fieldAddr Tryd.underlying24 rfl (off := 1) rfl Tryd.sizeOf22 (by decide) e1_6) ?_
      refine RL.val rfl (run_ld Tryd.underlying22 rfl rfl (hH6.cell (i := 0) rfl rfl)) ?_
      refine RL.val rfl (run_move e3_6) ?_
      refine RL.val rfl (run_indexAddrS (hs.facs.sl.hp hH6) Tryd.underlying22 Tryd.sizeOf36 rfl rfl (by omega)) ?_
      refine RL.val rfl (run_ldE (dv := fac0) facL_len (hs.facs.sl.hp hH6) Tryd.underlying36 rfl rfl rfl (by omega)) ?_
      refine RL.new rfl hH6 (f := fun b => (.pointer (some ⟨b, 0, none⟩))) (run_alloc zero_fac) ?_
      intro b11 w9 hH10
      refine RL.set hH10 (i := 0) rfl (run_stFac (hs.at (by omega) (by omega)) rfl rfl rfl (hH10.blk (i := 0) rfl)) ?_
      intro w12 hH13
      simp only [List.set_cons_zero, List.set_cons_succ] at hH13
      refine RL.nil ?_
      refine CW.seq ?_
      refine CW.seq ?_
      refine CW.region ?_
      refine RL.val rfl (run_fieldAddr Tryd.underlying36 rfl (off := 1) rfl Tryd.sizeOf30 (by decide) rfl) ?_
      refine RL.val rfl (run_ld Tryd.underlying30 rfl rfl (hH13.cell (i := 0) rfl rfl)) ?_
      refine RL.val rfl (run_lenSl ((hs.at (by omega) (by omega)).names.sl.hp hH13) rfl Tryd.underlying30 rfl) ?_
      refine RL.val rfl (run_gtr rfl rfl) ?_
      refine RL.nil ?_
      refine CW.condP rfl (fun h15 => ?_) (fun h15 => ?_)
      · refine CW.seq ?_
        refine CW.region ?_
        refine RL.val rfl (run_assign (v := B true) rfl) ?_
        refine RL.nil ?_
        refine CW.ret ?_
        refine outP1 Tryd.results6 (congrArg B ?_) hH13.below
        first | exact (big_1 (s := s.sh) (by omega)).symm | exact (big_2 (s := s.sh) (k := k) h0 (by omega) (by rw [sh_get]; first | exact bigN_1 (by show 70 < (s.facs.getD k.toNat fac0).names.length; omega) | exact bigN_2 i0 ‹_› (by show 40 < ((s.facs.getD k.toNat fac0).names.getD i.toNat tx0).size; omega))).symm | exact (big_no (s := s.sh) (k := k) (by omega) (by omega) fun j a b => by rw [sh_get]; exact hg j a b).symm
      · refine CW.skip ?_
        refine CW.seq ?_
        refine CW.region ?_
        refine RL.val rfl (run_assign (v := I 0) rfl) ?_
        refine RL.nil ?_
        refine CW.block ?_
        have hnb : (s.facs.getD k.toNat fac0).names.length ≤ 70 := by omega
        refine CW.loop (G := (Int)) (fun (i : Int) s' w' => (Fr [2, 5, 26, 27, 28, 29, 30, 31, 32, 33, 34, 35, 36, 37, 38, 39] _ s') ∧ (Hp w w' _) ∧ (s' 5 = I i) ∧ (0 ≤ i) ∧ (i ≤ (s.facs.getD k.toNat fac0).names.length) ∧ (∀ j : Int, 0 ≤ j → j < i → ¬ 40 < ((s.facs.getD k.toNat fac0).names.getD j.toNat tx0).size)) (fun (i : Int) => ((s.facs.getD k.toNat fac0).names.length - i).toNat) (0) ⟨Fr.refl _ _, hH13, rfl, (by omega), (by omega), fun j a b => absurd b (by omega)⟩ ?_
        rintro i sg16 w16 ⟨fr16, hH16, e5_16, i0, i1, hn⟩
        have e1_16 := (fr16 1 rfl).trans e1_6
        have e3_16 := (fr16 3 rfl).trans e3_6
        have e4_16 : sg16 4 = .pointer (some ⟨_, _, none⟩) := (fr16 4 rfl).trans rfl
        have e10_16 : sg16 10 = I _ := (fr16 10 rfl).trans rfl
        have e11_16 : sg16 11 = .pointer (some ⟨_, _, none⟩) := (fr16 11 rfl).trans rfl
        have e12_16 := (fr16 12 rfl).trans (by conv => lhs; whnf)
        have e13_16 : sg16 13 = I _ := (fr16 13 rfl).trans rfl
        have e14_16 : sg16 14 = B _ := (fr16 14 rfl).trans rfl
        have e17_16 : sg16 17 = .pointer (some ⟨_, _, none⟩) := (fr16 17 rfl).trans rfl
        have e18_16 := (fr16 18 rfl).trans (by conv => lhs; whnf)
        have e19_16 : sg16 19 = I _ := (fr16 19 rfl).trans rfl
        have e20_16 : sg16 20 = .pointer (some ⟨_, _, none⟩) := (fr16 20 rfl).trans rfl
        have e21_16 : sg16 21 = .agg _ := (fr16 21 rfl).trans rfl
        have e22_16 : sg16 22 = .pointer (some ⟨_, _, none⟩) := (fr16 22 rfl).trans rfl
        have e23_16 := (fr16 23 rfl).trans (by conv => lhs; whnf)
        have e24_16 : sg16 24 = I _ := (fr16 24 rfl).trans rfl
        have e25_16 : sg16 25 = B _ := (fr16 25 rfl).trans rfl
        refine CW.seq ?_
        refine CW.seq ?_
        refine CW.region ?_
        refine RL.val rfl (run_move e5_16) ?_
        refine RL.val rfl (run_fieldAddr Tryd.underlying36 rfl (off := 1) rfl Tryd.sizeOf30 (by decide) e4_16) ?_
        refine RL.val rfl (run_ld Tryd.underlying30 rfl rfl (hH16.cell (i := 0) rfl rfl)) ?_
        refine RL.val rfl (run_lenSl ((hs.at (by omega) (by omega)).names.sl.hp hH16) rfl Tryd.underlying30 rfl) ?_
        refine RL.val rfl (run_lss rfl rfl) ?_
        refine RL.nil ?_
        refine CW.condP rfl (fun h18 => ?_) (fun h18 => ?_)
        · refine CW.skip ?_
          refine CW.seq ?_
          refine CW.block ?_
          refine CW.seq ?_
          refine CW.region ?_
          refine RL.val rfl (run_fieldAddr Tryd.underlying36 rfl (off := 1) rfl Tryd.sizeOf30 (by decide) e4_16) ?_
          refine RL.val rfl (run_ld Tryd.underlying30 rfl rfl (hH16.cell (i := 0) rfl rfl)) ?_
          refine RL.val rfl (run_move e5_16) ?_
          refine RL.val rfl (run_indexAddrS ((hs.at (by omega) (by omega)).names.sl.hp hH16) Tryd.underlying30 Tryd.sizeOf9 rfl rfl (by omega)) ?_
          refine RL.val rfl (run_ld Tryd.underlying9 rfl rfl (((hs.at (by omega) (by omega)).names.sl.hp hH16).cell _ _ (txL_at (by omega)))) ?_
          refine RL.val rfl (run_lenStr rfl Tryd.underlying9 rfl) ?_
          refine RL.val rfl (run_gtr rfl rfl) ?_
          refine RL.nil ?_
          refine CW.condP rfl (fun h20 => ?_) (fun h20 => ?_)
          · refine CW.seq ?_
            refine CW.region ?_
            refine RL.val rfl (run_assign (v := B true) rfl) ?_
            refine RL.nil ?_
            refine CW.ret ?_
            refine outP1 Tryd.results6 (congrArg B ?_) hH16.below
            first | exact (big_1 (s := s.sh) (by omega)).symm | exact (big_2 (s := s.sh) (k := k) h0 (by omega) (by rw [sh_get]; first | exact bigN_1 (by show 70 < (s.facs.getD k.toNat fac0).names.length; omega) | exact bigN_2 i0 ‹_› (by show 40 < ((s.facs.getD k.toNat fac0).names.getD i.toNat tx0).size; omega))).symm | exact (big_no (s := s.sh) (k := k) (by omega) (by omega) fun j a b => by rw [sh_get]; exact hg j a b).symm
          · refine CW.skip ?_
            refine CW.region ?_
            refine RL.val rfl (run_move e5_16) ?_
            refine RL.val rfl (run_add rfl rfl (by omega)) ?_
            refine RL.val rfl (run_assign (v := I _) rfl) ?_
            refine RL.nil ?_
            refine ⟨i + 1, ?_, ((((((((((((((fr16.u rfl).u rfl).u rfl).u rfl).u rfl).u rfl).u rfl).u rfl).u rfl).u rfl).u rfl).u rfl).u rfl).u rfl).u rfl, hH16, (congrArg I (by first | rfl | omega)), ?_, ?_, ?_⟩
            · ((try dsimp only); omega)
            · omega
            · omega
            · exact fun j a b => if e : j = i then e ▸ (by omega) else hn j a (by omega)
        · refine CW.exit (id := 2) rfl ?_
          refine CW.region ?_
          refine RL.val rfl (run_move e3_16) ?_
          refine RL.val rfl (run_add rfl rfl (by omega)) ?_
          refine RL.val rfl (run_assign (v := I _) rfl) ?_
          refine RL.nil ?_
          refine ⟨k + 1, ?_, (((((((((((((((((((((((((fr6.u rfl).u rfl).u rfl).u rfl).u rfl).u rfl).u rfl).u rfl).u rfl).u rfl).u rfl).u rfl).u rfl).u rfl).u rfl).u rfl).t fr16 rfl)).u rfl).u rfl).u rfl).u rfl).u rfl).u rfl).u rfl).u rfl, (hH16.sub (.cons _ (List.Sublist.refl _))), (congrArg I (by first | rfl | omega)), ?_, ?_, ?_⟩
          · ((try dsimp only); omega)
          · omega
          · omega
          · exact fun j a b => if e : j = k then e ▸ bigN_no (by omega) ‹¬ i < _› hn else hg j a (by omega)
    · refine CW.exit (id := 0) rfl ?_
      refine CW.seq ?_
      refine CW.region ?_
      refine RL.val rfl (run_assign (v := B false) rfl) ?_
      refine RL.nil ?_
      refine CW.ret ?_
      refine outP1 Tryd.results6 (congrArg B ?_) hH6.below
      first | exact (big_1 (s := s.sh) (by omega)).symm | exact (big_2 (s := s.sh) (k := k) h0 (by omega) (by rw [sh_get]; first | exact bigN_1 (by show 70 < (s.facs.getD k.toNat fac0).names.length; omega) | exact bigN_2 i0 ‹_› (by show 40 < ((s.facs.getD k.toNat fac0).names.getD i.toNat tx0).size; omega))).symm | exact (big_no (s := s.sh) (k := k) (by omega) (by omega) fun j a b => by rw [sh_get]; exact hg j a b).symm

theorem c_shape_clone (K : Vu) (f : Fac) (hn : f.names.length ≤ 1000) (w : World) (hK : Le K (Kw w)) (hf : FacV K f) : Calls Tryd.prog 21 #[.agg (facC f)] w (PureF K (fun K' u => ∃ f' : Fac, u = .agg (facC f') ∧ f'.fc = f.fc ∧ FacV K' f') w) := by
  refine enter Tryd.func21 rfl Tryd.ntmps21 rfl ?_
  have hH := Hp.start w
  refine CW.seq ?_
  refine CW.region ?_
  refine RL.new rfl hH (f := fun b => (.pointer (some ⟨b, 0, none⟩))) (run_box (v := .agg _) rfl) ?_
  intro b3 w1 hH2
  refine RL.new rfl hH2 (f := fun b => (.pointer (some ⟨b, 0, none⟩))) (run_alloc zero_fac) ?_
  intro b6 w4 hH5
  refine RL.nil ?_
  refine CW.seq ?_
  refine CW.region ?_
  refine RL.new rfl hH5 (f := fun b => (.slice (some ⟨b, 0, none⟩) 0 0)) (run_mkE Tryd.underlying30 Tryd.sizeOf9) ?_
  intro b9 w7 hH8
  (try simp only [List.flatMap_cons, List.flatMap_nil, clI, clB, clS, clP, clL, clA, List.append_nil, List.cons_append, List.nil_append] at hH8)
  have hH10 := hH8.blkRow 0 1 rfl (by decide)
  refine RL.val rfl (run_fieldAddr Tryd.underlying36 rfl (off := 1) rfl Tryd.sizeOf30 (by decide) rfl) ?_
  refine RL.val rfl (run_ld Tryd.underlying30 rfl rfl (hH10.cell (i := 2) rfl rfl)) ?_
  refine RL.app rfl hH10 (i := 0) rfl ((hf.mono hK).names.sl.hp hH10) rfl rfl Tryd.underlying30 rfl rfl (size := 1) (bytes := 16) rfl rfl rfl (by decide) (by simp [Value.oneCell']) (by omega) (by simp only [maxLen]; omega) ?_
  intro v11 w12 hH13
  simp only [List.set_cons_zero, List.set_cons_succ] at hH13
  refine RL.val rfl (run_fieldAddr Tryd.underlying36 rfl (off := 1) rfl Tryd.sizeOf30 (by decide) rfl) ?_
  have hone := (row_cells (hH13.get (i := 0) rfl)).2
  refine RL.set hH13 (i := 2) rfl (run_stFac1 rfl rfl rfl (row_cells (hH13.get (i := 0) rfl)).1 hone (hH13.blk (i := 2) rfl)) ?_
  intro w14 hH15
  simp only [List.set_cons_zero, List.set_cons_succ] at hH15
  refine RL.nil ?_
  refine CW.seq ?_
  refine CW.region ?_
  refine RL.val rfl (run_ldFac Tryd.underlying36 rfl rfl rfl (hH15.blk (i := 2) rfl)) ?_
  refine RL.set hH15 (i := 1) rfl (run_stFacO (facC_one2 hf hone) rfl rfl rfl (hH15.blk (i := 1) rfl)) ?_
  intro w16 hH17
  simp only [List.set_cons_zero, List.set_cons_succ] at hH17
  refine RL.nil ?_
  refine CW.ret ?_
  obtain ⟨Zc, hz, hzv, -⟩ := hH17.frz K
  refine outCg Tryd.results21 rfl hH17 (i := 1) rfl Tryd.underlying36 rfl (by simp only [List.size_toArray, facL_len]; rfl) ⟨Zc, hz.sub (List.sublist_append_left _ _), _, rfl, rfl, ⟨?_⟩⟩
  simpa using hzv

theorem c_shape_One (K : Vu) (f : Fac) (hn : f.names.length ≤ 1000) (w : World) (hK : Le K (Kw w)) (hf : FacV K f) : Calls Tryd.prog 10 #[.agg (facC f)] w (PureF K (fun K' u => ∃ p : Shp, u = .agg (shpC p) ∧ p.sh = ⟨false, [f.fc]⟩ ∧ ShpV K' p) w) := by
  refine enter Tryd.func10 rfl Tryd.ntmps10 rfl ?_
  have hH := Hp.start w
  refine CW.seq ?_
  refine CW.region ?_
  refine RL.new rfl hH (f := fun b => (.pointer (some ⟨b, 0, none⟩))) (run_box (v := .agg _) rfl) ?_
  intro b3 w1 hH2
  refine RL.new rfl hH2 (f := fun b => (.pointer (some ⟨b, 0, none⟩))) (run_alloc Tryd.zeroValue24) ?_
  intro b6 w4 hH5
  refine RL.nil ?_
  refine CW.seq ?_
  refine CW.region ?_
  refine RL.val rfl (run_ldFac Tryd.underlying36 rfl rfl rfl (hH5.blk (i := 1) rfl)) ?_
  refine RL.callF rfl hH5 (c_shape_clone K f hn _ (hK.trans hH5.kw) hf) (run_call1 Tryd.call21 rfl) ?_
  intro v9 w10 Z12 hH11 hp13
  have hH14 : Hp _ w10 (_ :: _ :: Z12) := hH11.zin0 (L := [_, _])
  obtain ⟨f15, rfl, hfc16, hfv17⟩ := hp13
  refine RL.new rfl hH14 (f := fun b => (.slice (some ⟨b, 0, none⟩) 1 1)) (run_mkFacs Tryd.underlying22 rfl rfl rfl (l := [_]) rfl (by decide) (by decide) rfl) ?_
  intro b20 w18 hH19
  refine RL.val rfl (run_bld (vs := [(1, _)]) rfl (built_shp1 rfl)) ?_
  refine RL.set hH19 (i := 1) rfl (run_stW (c' := #[B false, .slice (some ⟨b20, 0, none⟩) 1 1]) rfl rfl rfl (by simp [Value.oneCell']) (hH19.blk (i := 1) rfl) rfl) ?_
  intro w21 hH22
  simp only [List.set_cons_zero, List.set_cons_succ] at hH22
  refine RL.nil ?_
  refine CW.ret ?_
  refine outCg Tryd.results10 rfl hH22 (i := 1) rfl Tryd.underlying24 rfl rfl ⟨_, hH22.sub (.cons_cons _ (.cons _ (.cons _ (.refl _)))), ⟨false, .slice (some ⟨b20, 0, none⟩) 1 1, [f15]⟩, rfl, by simp [Shp.sh, hfc16], ?_, ?_⟩
  · exact slv_blk (c := [f15].flatMap facL) (List.mem_cons_self ..) (flat_length facL_len _) (by simp [maxLen])
  · intro x hx; simp at hx; subst hx; exact hfv17.mono (Le.zz fun y hy => List.mem_cons_of_mem _ (by simpa using hy))

theorem c_shape_Product (K : Vu) (v : Value) (l : List Shp) (hl : l.length ≤ 1000) (hfn : ∀ s ∈ l, s.facs.length ≤ 1000) (hnn : ∀ s ∈ l, ∀ f ∈ s.facs, f.names.length ≤ 1000) (w : World) (hK : Le K (Kw w)) (hs : Sl w v 2 l.length (l.flatMap shpL)) (hv : ShpsV K l) : Calls Tryd.prog 9 #[v] w (PureF K (fun K' u => ∃ p : Shp, u = .agg (shpC p) ∧ p.sh = ⟨true, prodF l⟩ ∧ ShpV K' p) w) := by
  refine enter Tryd.func9 rfl Tryd.ntmps9 rfl ?_
  have hH := Hp.start w
  refine CW.seq ?_
  refine CW.region ?_
  refine RL.new rfl hH (f := fun b => (.pointer (some ⟨b, 0, none⟩))) (run_alloc Tryd.zeroValue24) ?_
  intro b3 w1 hH2
  refine RL.nil ?_
  refine CW.seq ?_
  refine CW.region ?_
  refine RL.val rfl (run_bld (vs := [(0, B true)]) rfl built_shp0) ?_
  refine RL.new rfl hH2 (f := fun b => (.pointer (some ⟨b, 0, none⟩))) (run_alloc Tryd.zeroValue24) ?_
  intro b6 w4 hH5
  refine RL.set hH5 (i := 0) rfl (run_stW (c' := #[B true, .slice none 0 0]) rfl rfl rfl (by simp [Value.oneCell']) (hH5.blk (i := 0) rfl) rfl) ?_
  intro w7 hH8
  simp only [List.set_cons_zero, List.set_cons_succ] at hH8
  have hH9 := hH8.nilRow 36 67
  refine RL.nil ?_
  refine CW.seq ?_
  refine CW.seq ?_
  refine CW.region ?_
  refine RL.val rfl (run_move (by conv => lhs; whnf)) ?_
  refine RL.val rfl (run_lenSl (hs.hp hH9) rfl Tryd.underlying52 rfl) ?_
  refine RL.val rfl (run_move (v := I 0) rfl) ?_
  refine RL.nil ?_
  refine CW.block ?_
  refine CW.loop (G := (Int) × (Value) × (List Fac) × (List Ent)) (fun (⟨k, fv0, fs, Z⟩ : (Int) × (Value) × (List Fac) × (List Ent)) s' w' => (Fr [5, 7, 11, 12, 13, 14, 15, 16, 17, 18, 19, 20, 21, 22, 23, 24, 25, 26, 27, 28, 29, 30] _ s') ∧ (Hp w w' (.row fv0 36 67 (fs.length) (fs.flatMap facL) :: .blk b6 (.cells (#[B true, fv0]) 24 (0, 0)) :: _ :: Z)) ∧ (s' 11 = I k) ∧ (0 ≤ k) ∧ (k ≤ l.length) ∧ (fs.map Fac.fc = prodF (l.take k.toNat)) ∧ (FacsV (Kz K Z) fs) ∧ ((fs.length : Int) ≤ 1000 * k)) (fun (⟨k, fv0, fs, Z⟩ : (Int) × (Value) × (List Fac) × (List Ent)) => (l.length - k).toNat) ((0, (.slice none 0 0 : Value), [], [])) ⟨Fr.refl _ _, hH9, rfl, (by omega), (by omega), rfl, FacsV.nil _, (by simp)⟩ ?_
  rintro ⟨k, fv0, fs, Z⟩ sg10 w10 ⟨fr10, hH10, e11_10, h0, hk, hm, hF, hb⟩
  have e2_10 : sg10 2 = .pointer (some ⟨_, _, none⟩) := (fr10 2 rfl).trans rfl
  have e3_10 : sg10 3 = .pointer (some ⟨_, _, none⟩) := (fr10 3 rfl).trans rfl
  have e9_10 := (fr10 9 rfl).trans (by conv => lhs; whnf)
  have e10_10 : sg10 10 = I _ := (fr10 10 rfl).trans rfl
  refine CW.seq ?_
  refine CW.region ?_
  refine RL.val rfl (run_lss e11_10 e10_10) ?_
  refine RL.nil ?_
  refine CW.seq ?_
  refine CW.condP rfl (fun h12 => ?_) (fun h12 => ?_)
  · refine CW.skip ?_
    refine CW.seq ?_
    refine CW.block ?_
    refine CW.seq ?_
    refine CW.region ?_
    refine RL.val rfl (run_indexAddrS (hs.hp hH10) Tryd.underlying52 Tryd.sizeOf24 e9_10 e11_10 (by omega)) ?_
    refine RL.val rfl (run_ldE (dv := shp0) shpL_len (hs.hp hH10) Tryd.underlying24 rfl rfl rfl (by omega)) ?_
    refine RL.new rfl hH10 (f := fun b => (.pointer (some ⟨b, 0, none⟩))) (run_alloc Tryd.zeroValue24) ?_
    intro b15 w13 hH14
    refine RL.set hH14 (i := 0) rfl (run_stShp ((hv.mono hK).at (by omega) (by omega)) rfl rfl rfl (hH14.blk (i := 0) rfl) rfl) ?_
    intro w16 hH17
    simp only [List.set_cons_zero, List.set_cons_succ] at hH17
    refine RL.nil ?_
    refine CW.seq ?_
    refine CW.region ?_
    refine RL.val rfl (run_fieldAddr Tryd.underlying24 rfl (off := 1) rfl Tryd.sizeOf22 (by decide) rfl) ?_
    refine RL.val rfl (run_ld Tryd.underlying22 rfl rfl (hH17.cell (i := 0) rfl rfl)) ?_
    refine RL.val rfl (run_lenSl (((hv.mono hK).at (by omega) (by omega)).facs.sl.hp hH17) rfl Tryd.underlying22 rfl) ?_
    refine RL.val rfl (run_move (v := I 0) rfl) ?_
    refine RL.nil ?_
    refine CW.block ?_
    have hfk := hfn _ (List.mem_of_getElem? (getD_at (d := shp0) h0 ‹k < l.length›))
    refine CW.loop (G := (Int) × (Value) × (List Fac) × (List Ent)) (fun (⟨i, fv1, gs, Z1⟩ : (Int) × (Value) × (List Fac) × (List Ent)) s' w' => (Fr [7, 18, 19, 20, 21, 22, 23, 24, 25, 26, 27, 28, 29] _ s') ∧ (Hp w w' (_ :: .row fv1 36 67 (gs.length) (gs.flatMap facL) :: .blk b6 (.cells (#[B true, fv1]) 24 (0, 0)) :: _ :: Z1)) ∧ (s' 18 = I i) ∧ (0 ≤ i) ∧ (i ≤ (l.getD k.toNat shp0).facs.length) ∧ (gs.map Fac.fc = fs.map Fac.fc ++ ((l.getD k.toNat shp0).facs.take i.toNat).map Fac.fc) ∧ (FacsV (Kz K Z1) gs) ∧ ((gs.length : Int) = fs.length + i)) (fun (⟨i, fv1, gs, Z1⟩ : (Int) × (Value) × (List Fac) × (List Ent)) => ((l.getD k.toNat shp0).facs.length - i).toNat) ((0, (fv0 : Value), fs, Z)) ⟨Fr.refl _ _, hH17, rfl, (by omega), (by omega), (by simp), hF, (by simp)⟩ ?_
    rintro ⟨i, fv1, gs, Z1⟩ sg18 w18 ⟨fr18, hH18, e18_18, i0, ik, hm1, hF1, hb1⟩
    have e2_18 := (fr18 2 rfl).trans e2_10
    have e3_18 := (fr18 3 rfl).trans e3_10
    have e5_18 : sg18 5 = .pointer (some ⟨_, _, none⟩) := (fr18 5 rfl).trans rfl
    have e9_18 := (fr18 9 rfl).trans e9_10
    have e10_18 := (fr18 10 rfl).trans e10_10
    have e11_18 := (fr18 11 rfl).trans e11_10
    have e12_18 := (fr18 12 rfl).trans (by conv => lhs; whnf)
    have e13_18 : sg18 13 = .pointer (some ⟨_, _, none⟩) := (fr18 13 rfl).trans rfl
    have e14_18 : sg18 14 = .agg _ := (fr18 14 rfl).trans rfl
    have e15_18 : sg18 15 = .pointer (some ⟨_, _, none⟩) := (fr18 15 rfl).trans rfl
    have e16_18 := (fr18 16 rfl).trans (by conv => lhs; whnf)
    have e17_18 : sg18 17 = I _ := (fr18 17 rfl).trans rfl
    refine CW.seq ?_
    refine CW.region ?_
    refine RL.val rfl (run_lss e18_18 e17_18) ?_
    refine RL.nil ?_
    refine CW.seq ?_
    refine CW.condP rfl (fun h20 => ?_) (fun h20 => ?_)
    · refine CW.skip ?_
      refine CW.seq ?_
      refine CW.block ?_
      refine CW.seq ?_
      refine CW.region ?_
      refine RL.val rfl (run_indexAddrS (((hv.mono hK).at (by omega) (by omega)).facs.sl.hp hH18) Tryd.underlying22 Tryd.sizeOf36 e16_18 e18_18 (by omega)) ?_
      refine RL.val rfl (run_ldE (dv := fac0) facL_len (((hv.mono hK).at (by omega) (by omega)).facs.sl.hp hH18) Tryd.underlying36 rfl rfl rfl (by omega)) ?_
      refine RL.new rfl hH18 (f := fun b => (.pointer (some ⟨b, 0, none⟩))) (run_alloc zero_fac) ?_
      intro b23 w21 hH22
      refine RL.set hH22 (i := 0) rfl (run_stFac (((hv.mono hK).at (by omega) (by omega)).at (by omega) (by omega)) rfl rfl rfl (hH22.blk (i := 0) rfl)) ?_
      intro w24 hH25
      simp only [List.set_cons_zero, List.set_cons_succ] at hH25
      refine RL.nil ?_
      refine CW.regionS (by kernel_rfl) hH25 (.cons_cons _ (.cons_cons _ (.cons _ (.cons _ (List.Sublist.refl _))))) ?_
      intro w26 hH27
      refine AN.take 0 rfl rfl (by kernel_rfl) (by kernel_rfl) (by kernel_rfl) (hH27.sub (.cons_cons _ (.cons_cons _ (.cons _ (.cons _ (List.Sublist.refl _)))))) (fun w hS => run_fieldAddr Tryd.underlying24 rfl (off := 1) rfl Tryd.sizeOf22 (by decide) e3_18) ?_
      refine AN.take 2 rfl rfl (by kernel_rfl) (by kernel_rfl) (by kernel_rfl) (hH27.sub (.cons_cons _ (.cons_cons _ (.cons _ (.cons _ (List.Sublist.refl _)))))) (fun w hS => run_ldFac Tryd.underlying36 rfl rfl rfl (hS.blk (i := 0) rfl)) ?_
      refine AN.two 1 3 (by kernel_rfl) ?_ ?_
      · refine AO.read rfl gnone rfl hH27 (.cons_cons _ (.cons_cons _ (.cons _ (.cons _ (List.Sublist.refl _))))) (run_ld Tryd.underlying22 rfl rfl (hH27.cell (i := 3) rfl rfl)) ?_
        refine AN.one 3 (by kernel_rfl) ?_
        refine AO.callF rfl gnone rfl hH27 (.cons_cons _ (.cons_cons _ (.cons _ (.cons _ (List.Sublist.refl _))))) (c_shape_clone K ((l.getD k.toNat shp0).facs.getD i.toNat fac0) (hnn _ (List.mem_of_getElem? (getD_at (d := shp0) h0 ‹k < l.length›)) _ (List.mem_of_getElem? (getD_at (d := fac0) i0 ‹_›))) _ (hK.trans hH27.kw) ((hv.at h0 ‹_›).at i0 ‹_›)) (run_call1 Tryd.call21 rfl) ?_
        intro v32 w33 Z35 hH34 hp36
        have hH37 : Hp _ w33 (_ :: _ :: _ :: _ :: _ :: (Z35 ++ Z1)) := hH34.zin (L := [_, _, _, _, _]) (L' := Z1)
        obtain ⟨f38, rfl, hfc39, hfv40⟩ := hp36
        refine AN.one 4 (by kernel_rfl) ?_
        refine AO.new rfl gnone rfl hH37 (.cons_cons _ (.cons_cons _ (.cons _ (.cons _ (.cons_cons _ (List.sublist_append_of_sublist_right (List.Sublist.refl _))))))) (f := fun b => .slice (some ⟨b, 0, none⟩) 1 1) (run_mkFacs Tryd.underlying22 rfl rfl rfl (l := [_]) rfl (by decide) (by decide) rfl) ?_
        intro b43 w41 hH42
        refine AN.one 5 (by kernel_rfl) ?_
        refine AO.app rfl gnone rfl hH42 (j := 3) rfl (fun _ => (.cons _ (.cons_cons _ (.cons_cons _ (.cons _ (.cons _ (.cons_cons _ (List.sublist_append_of_sublist_right (List.Sublist.refl _))))))))) (Hp.slFlat facL_len hH42 (i := 0) (l := [_]) rfl (by simp [maxLen])) rfl rfl Tryd.underlying22 rfl rfl (size := 67) (bytes := 552) rfl rfl rfl (by decide) (fac1_one hfv40) (by show (gs.length + 1) * _ ≤ _; omega) (by show gs.length + 1 ≤ _; simp only [maxLen]; omega) ?_
        intro v46 w44 hH45
        simp only [List.set_cons_zero, List.set_cons_succ] at hH45
        refine AN.take 6 rfl rfl (by kernel_rfl) (by kernel_rfl) (by kernel_rfl) (hH45.sub (.cons _ (.cons_cons _ (.cons_cons _ (.cons _ (.cons _ (.cons_cons _ (List.sublist_append_of_sublist_right (List.Sublist.refl _))))))))) (fun w hS => run_fieldAddr Tryd.underlying24 rfl (off := 1) rfl Tryd.sizeOf22 (by decide) e3_18) ?_
        refine AN.one 7 (by kernel_rfl) ?_
        refine AO.set rfl gnone hH45 (j := 4) rfl (.cons _ (.cons_cons _ (.cons_cons _ (.cons _ (.cons _ (.cons_cons _ (List.sublist_append_of_sublist_right (List.Sublist.refl _)))))))) (run_st rfl rfl (v := v46) rfl (row_cells (hH45.get (i := 3) rfl)).1 (row_cells (hH45.get (i := 3) rfl)).2 (hH45.blk (i := 4) rfl) (by simp)) ?_
        intro w49 hH50
        simp only [List.set_cons_zero, List.set_cons_succ] at hH50
        refine AN.done (by kernel_rfl) ?_
        refine CW.region ?_
        refine RL.val rfl (run_add e18_18 rfl (by omega)) ?_
        refine RL.val rfl (run_move (v := I _) rfl) ?_
        refine RL.nil ?_
        refine ⟨(i + 1, v46, (gs ++ [f38]), (Z35 ++ Z1)), ?_, ((((((((((((fr18.u rfl).u rfl).u rfl).u rfl).u rfl).u rfl).u rfl).u rfl).u rfl).u rfl).u rfl).u rfl).u rfl, (Hp.conv (hH50.sub (.cons _ (.cons _ (List.Sublist.refl _)))) (by first | rfl | simp)), (congrArg I (by first | rfl | omega)), ?_, ?_, ?_, ?_, ?_⟩
        · ((try dsimp only); omega)
        · omega
        · omega
        · rw [facs_next i0 ‹_›, List.map_append, hm1, List.append_assoc]; simp only [List.map_cons, List.map_nil]; rw [hfc39]
        · exact (hF1.mono (Le.zz fun y hy => List.mem_append_right _ hy)).snoc (hfv40.mono (Le.zz fun y hy => List.mem_append_left _ hy))
        · simp only [List.length_append, List.length_singleton]; omega
      · refine AO.callF rfl gnone rfl hH27 (.cons_cons _ (.cons_cons _ (.cons _ (.cons _ (List.Sublist.refl _))))) (c_shape_clone K ((l.getD k.toNat shp0).facs.getD i.toNat fac0) (hnn _ (List.mem_of_getElem? (getD_at (d := shp0) h0 ‹k < l.length›)) _ (List.mem_of_getElem? (getD_at (d := fac0) i0 ‹_›))) _ (hK.trans hH27.kw) ((hv.at h0 ‹_›).at i0 ‹_›)) (run_call1 Tryd.call21 rfl) ?_
        intro v53 w54 Z56 hH55 hp57
        have hH58 : Hp _ w54 (_ :: _ :: _ :: _ :: _ :: (Z56 ++ Z1)) := hH55.zin (L := [_, _, _, _, _]) (L' := Z1)
        obtain ⟨f59, rfl, hfc60, hfv61⟩ := hp57
        refine AN.two 1 4 (by kernel_rfl) ?_ ?_
        · refine AO.read rfl gnone rfl hH58 (.cons_cons _ (.cons_cons _ (.cons _ (.cons _ (.cons_cons _ (List.sublist_append_of_sublist_right (List.Sublist.refl _))))))) (run_ld Tryd.underlying22 rfl rfl (hH58.cell (i := 3) rfl rfl)) ?_
          refine AN.one 4 (by kernel_rfl) ?_
          refine AO.new rfl gnone rfl hH58 (.cons_cons _ (.cons_cons _ (.cons _ (.cons _ (.cons_cons _ (List.sublist_append_of_sublist_right (List.Sublist.refl _))))))) (f := fun b => .slice (some ⟨b, 0, none⟩) 1 1) (run_mkFacs Tryd.underlying22 rfl rfl rfl (l := [_]) rfl (by decide) (by decide) rfl) ?_
          intro b66 w64 hH65
          refine AN.one 5 (by kernel_rfl) ?_
          refine AO.app rfl gnone rfl hH65 (j := 3) rfl (fun _ => (.cons _ (.cons_cons _ (.cons_cons _ (.cons _ (.cons _ (.cons_cons _ (List.sublist_append_of_sublist_right (List.Sublist.refl _))))))))) (Hp.slFlat facL_len hH65 (i := 0) (l := [_]) rfl (by simp [maxLen])) rfl rfl Tryd.underlying22 rfl rfl (size := 67) (bytes := 552) rfl rfl rfl (by decide) (fac1_one hfv61) (by show (gs.length + 1) * _ ≤ _; omega) (by show gs.length + 1 ≤ _; simp only [maxLen]; omega) ?_
          intro v69 w67 hH68
          simp only [List.set_cons_zero, List.set_cons_succ] at hH68
          refine AN.take 6 rfl rfl (by kernel_rfl) (by kernel_rfl) (by kernel_rfl) (hH68.sub (.cons _ (.cons_cons _ (.cons_cons _ (.cons _ (.cons _ (.cons_cons _ (List.sublist_append_of_sublist_right (List.Sublist.refl _))))))))) (fun w hS => run_fieldAddr Tryd.underlying24 rfl (off := 1) rfl Tryd.sizeOf22 (by decide) e3_18) ?_
          refine AN.one 7 (by kernel_rfl) ?_
          refine AO.set rfl gnone hH68 (j := 4) rfl (.cons _ (.cons_cons _ (.cons_cons _ (.cons _ (.cons _ (.cons_cons _ (List.sublist_append_of_sublist_right (List.Sublist.refl _)))))))) (run_st rfl rfl (v := v69) rfl (row_cells (hH68.get (i := 3) rfl)).1 (row_cells (hH68.get (i := 3) rfl)).2 (hH68.blk (i := 4) rfl) (by simp)) ?_
          intro w72 hH73
          simp only [List.set_cons_zero, List.set_cons_succ] at hH73
          refine AN.done (by kernel_rfl) ?_
          refine CW.region ?_
          refine RL.val rfl (run_add e18_18 rfl (by omega)) ?_
          refine RL.val rfl (run_move (v := I _) rfl) ?_
          refine RL.nil ?_
          refine ⟨(i + 1, v69, (gs ++ [f59]), (Z56 ++ Z1)), ?_, ((((((((((((fr18.u rfl).u rfl).u rfl).u rfl).u rfl).u rfl).u rfl).u rfl).u rfl).u rfl).u rfl).u rfl).u rfl, (Hp.conv (hH73.sub (.cons _ (.cons _ (List.Sublist.refl _)))) (by first | rfl | simp)), (congrArg I (by first | rfl | omega)), ?_, ?_, ?_, ?_, ?_⟩
          · ((try dsimp only); omega)
          · omega
          · omega
          · rw [facs_next i0 ‹_›, List.map_append, hm1, List.append_assoc]; simp only [List.map_cons, List.map_nil]; rw [hfc60]
          · exact (hF1.mono (Le.zz fun y hy => List.mem_append_right _ hy)).snoc (hfv61.mono (Le.zz fun y hy => List.mem_append_left _ hy))
          · simp only [List.length_append, List.length_singleton]; omega
        · refine AO.new rfl gnone rfl hH58 (.cons_cons _ (.cons_cons _ (.cons _ (.cons _ (.cons_cons _ (List.sublist_append_of_sublist_right (List.Sublist.refl _))))))) (f := fun b => .slice (some ⟨b, 0, none⟩) 1 1) (run_mkFacs Tryd.underlying22 rfl rfl rfl (l := [_]) rfl (by decide) (by decide) rfl) ?_
          intro b76 w74 hH75
          refine AN.one 1 (by kernel_rfl) ?_
          refine AO.read rfl gnone rfl hH75 (.cons _ (.cons_cons _ (.cons_cons _ (.cons _ (.cons _ (.cons_cons _ (List.sublist_append_of_sublist_right (List.Sublist.refl _)))))))) (run_ld Tryd.underlying22 rfl rfl (hH75.cell (i := 4) rfl rfl)) ?_
          refine AN.one 5 (by kernel_rfl) ?_
          refine AO.app rfl gnone rfl hH75 (j := 3) rfl (fun _ => (.cons _ (.cons_cons _ (.cons_cons _ (.cons _ (.cons _ (.cons_cons _ (List.sublist_append_of_sublist_right (List.Sublist.refl _))))))))) (Hp.slFlat facL_len hH75 (i := 0) (l := [_]) rfl (by simp [maxLen])) rfl rfl Tryd.underlying22 rfl rfl (size := 67) (bytes := 552) rfl rfl rfl (by decide) (fac1_one hfv61) (by show (gs.length + 1) * _ ≤ _; omega) (by show gs.length + 1 ≤ _; simp only [maxLen]; omega) ?_
          intro v81 w79 hH80
          simp only [List.set_cons_zero, List.set_cons_succ] at hH80
          refine AN.take 6 rfl rfl (by kernel_rfl) (by kernel_rfl) (by kernel_rfl) (hH80.sub (.cons _ (.cons_cons _ (.cons_cons _ (.cons _ (.cons _ (.cons_cons _ (List.sublist_append_of_sublist_right (List.Sublist.refl _))))))))) (fun w hS => run_fieldAddr Tryd.underlying24 rfl (off := 1) rfl Tryd.sizeOf22 (by decide) e3_18) ?_
          refine AN.one 7 (by kernel_rfl) ?_
          refine AO.set rfl gnone hH80 (j := 4) rfl (.cons _ (.cons_cons _ (.cons_cons _ (.cons _ (.cons _ (.cons_cons _ (List.sublist_append_of_sublist_right (List.Sublist.refl _)))))))) (run_st rfl rfl (v := v81) rfl (row_cells (hH80.get (i := 3) rfl)).1 (row_cells (hH80.get (i := 3) rfl)).2 (hH80.blk (i := 4) rfl) (by simp)) ?_
          intro w84 hH85
          simp only [List.set_cons_zero, List.set_cons_succ] at hH85
          refine AN.done (by kernel_rfl) ?_
          refine CW.region ?_
          refine RL.val rfl (run_add e18_18 rfl (by omega)) ?_
          refine RL.val rfl (run_move (v := I _) rfl) ?_
          refine RL.nil ?_
          refine ⟨(i + 1, v81, (gs ++ [f59]), (Z56 ++ Z1)), ?_, ((((((((((((fr18.u rfl).u rfl).u rfl).u rfl).u rfl).u rfl).u rfl).u rfl).u rfl).u rfl).u rfl).u rfl).u rfl, (Hp.conv (hH85.sub (.cons _ (.cons _ (List.Sublist.refl _)))) (by first | rfl | simp)), (congrArg I (by first | rfl | omega)), ?_, ?_, ?_, ?_, ?_⟩
          · ((try dsimp only); omega)
          · omega
          · omega
          · rw [facs_next i0 ‹_›, List.map_append, hm1, List.append_assoc]; simp only [List.map_cons, List.map_nil]; rw [hfc60]
          · exact (hF1.mono (Le.zz fun y hy => List.mem_append_right _ hy)).snoc (hfv61.mono (Le.zz fun y hy => List.mem_append_left _ hy))
          · simp only [List.length_append, List.length_singleton]; omega
    · refine CW.exit (id := 2) rfl ?_
      refine CW.region ?_
      refine RL.val rfl (run_add e11_18 rfl (by omega)) ?_
      refine RL.val rfl (run_move (v := I _) rfl) ?_
      refine RL.nil ?_
      refine ⟨(k + 1, fv1, gs, Z1), ?_, ((((((((((((fr10.u rfl).u rfl).u rfl).u rfl).u rfl).u rfl).u rfl).u rfl).t fr18 rfl)).u rfl).u rfl).u rfl, (Hp.conv (hH18.sub (.cons _ (List.Sublist.refl _))) (by first | rfl | simp)), (congrArg I (by first | rfl | omega)), ?_, ?_, ?_, ?_, ?_⟩
      · ((try dsimp only); omega)
      · omega
      · omega
      · rw [prod_next h0 ‹_›, ← hm, hm1, List.take_of_length_le (by omega)]; rfl
      · exact hF1
      · omega
  · refine CW.exit (id := 0) rfl ?_
    refine CW.seq ?_
    refine CW.region ?_
    refine RL.val rfl (run_ldA (cs := [B _, _]) Tryd.underlying24 rfl rfl e3_10 (rangeAt_cells (hH10.blk (i := 1) rfl))) ?_
    refine RL.set hH10 (i := 2) rfl (run_stW (c' := #[B true, fv0]) rfl e2_10 rfl (one_two (row_cells (hH10.get (i := 0) rfl)).2) (hH10.blk (i := 2) rfl) rfl) ?_
    intro w86 hH87
    simp only [List.set_cons_zero, List.set_cons_succ] at hH87
    refine RL.nil ?_
    refine CW.ret ?_
    obtain ⟨Zr, hz, hzv, -⟩ := hH87.frz K
    refine outCg (i := Zr.length + 1) Tryd.results9 e2_10 hz (app_get (i := 1) rfl) Tryd.underlying24 rfl rfl ⟨Zr ++ Z, hz.sub (List.Sublist.append (.refl _) (.cons _ (.cons _ (.refl _)))), ⟨true, fv0, fs⟩, rfl, ?_, ?_, ?_⟩
    · rw [Shp.sh, hm, prod_all ‹_›]
    · exact hzv.mono (Le.zz fun y hy => List.mem_append_left _ hy)
    · exact (hF.mono (Le.zz fun y hy => List.mem_append_right _ hy)).each

theorem c_clearancelaw07_alive  (w : World) (hT : Tab w) : Calls Tryd.prog 7 #[] w (Pure (B true) w) := by
  refine enter Tryd.func7 rfl Tryd.ntmps7 rfl ?_
  have hH := Hp.start w
  refine CW.seq ?_
  refine CW.region ?_
  refine RL.val rfl (run_assign (v := B false) rfl) ?_
  refine RL.nil ?_
  refine CW.seq ?_
  refine CW.region ?_
  refine RL.new rfl hH (f := fun b => (.slice (some ⟨b, 0, none⟩) 3 3)) (run_mkL Tryd.underlying30 rfl rfl (sz := 1) (vs := [.string ⟨#[97]⟩, .string ⟨#[98]⟩, .string ⟨#[99]⟩]) rfl rfl (by decide) (by decide) rfl rfl) ?_
  intro b3 w1 hH2
  (try simp only [List.flatMap_cons, List.flatMap_nil, clI, clB, clS, clP, clL, clA, List.append_nil, List.cons_append, List.nil_append] at hH2)
  refine RL.val rfl (run_bld (vs := [(0, I 1), (1, _)]) rfl (built_fac 1 _ 3 exN1)) ?_
  refine RL.callF rfl hH2 (c_shape_One (Kz (Kw w) [.blk b3 (.cells (txL exN1).toArray 9 (0, 0))]) ⟨1, .slice (some ⟨b3, 0, none⟩) 3 3, exN1, Rl.none⟩ (show List.length exN1 ≤ 1000 by decide) _ (hH2.kz (Le.refl _) fun x hx => by rw [List.mem_singleton.1 hx]; exact List.mem_of_getElem? (i := 0) rfl) ⟨slv_blk (c := txL exN1) (List.mem_singleton.2 rfl) rfl (by decide)⟩) (run_call1 Tryd.call10 rfl) ?_
  intro v6 w7 Z9 hH8 hp10
  have hH11 : Hp _ w7 (_ :: Z9) := hH8.zin0 (L := [_])
  obtain ⟨p12, rfl, psh13, pv14⟩ := hp10
  refine RL.new rfl hH11 (f := fun b => (.slice (some ⟨b, 0, none⟩) 2 2)) (run_mkL Tryd.underlying30 rfl rfl (sz := 1) (vs := [.string ⟨#[120]⟩, .string ⟨#[121]⟩]) rfl rfl (by decide) (by decide) rfl rfl) ?_
  intro b17 w15 hH16
  (try simp only [List.flatMap_cons, List.flatMap_nil, clI, clB, clS, clP, clL, clA, List.append_nil, List.cons_append, List.nil_append] at hH16)
  refine RL.val rfl (run_bld (vs := [(0, I 2), (1, _)]) rfl (built_fac 2 _ 2 exN2)) ?_
  refine RL.callF rfl hH16 (c_shape_One (Kz (Kw w) [.blk b17 (.cells (txL exN2).toArray 9 (0, 0))]) ⟨2, .slice (some ⟨b17, 0, none⟩) 2 2, exN2, Rl.none⟩ (show List.length exN2 ≤ 1000 by decide) _ (hH16.kz (Le.refl _) fun x hx => by rw [List.mem_singleton.1 hx]; exact List.mem_of_getElem? (i := 0) rfl) ⟨slv_blk (c := txL exN2) (List.mem_singleton.2 rfl) rfl (by decide)⟩) (run_call1 Tryd.call10 rfl) ?_
  intro v20 w21 Z23 hH22 hp24
  have hH25 : Hp _ w21 (_ :: _ :: (Z23 ++ Z9)) := hH22.zin (L := [_, _]) (L' := Z9)
  obtain ⟨p26, rfl, psh27, pv28⟩ := hp24
  refine RL.new rfl hH25 (f := fun b => (.slice (some ⟨b, 0, none⟩) 2 2)) (run_mkShps Tryd.underlying52 rfl rfl rfl (l := [p12, p26]) rfl (by decide) (by decide) rfl) ?_
  intro b31 w29 hH30
  have f1 := one_facs psh13
  have f2 := one_facs psh27
  refine RL.callF rfl hH30 (c_shape_Product _ (.slice (some ⟨b31, 0, none⟩) 2 2) [p12, p26] (show 2 ≤ 1000 by decide) (al_fn f1 f2) (al_nn f1 f2 (show List.length exN1 ≤ 1000 by decide) (show List.length exN2 ≤ 1000 by decide)) _ (hH30.kz (Le.refl _) fun x hx => hx) (Hp.slFlat shpL_len hH30 (i := 0) (l := [p12, p26]) rfl (show 2 ≤ maxLen by decide)) (al_v (pv14.mono (Le.kk.trans (Le.zz fun x hx => (List.mem_append.1 hx).elim (fun hx => (List.mem_cons_of_mem _ (List.mem_cons_of_mem _ (List.mem_cons_of_mem _ (List.mem_append_right _ hx))))) (fun hx => by rw [List.mem_singleton.1 hx]; exact List.mem_of_getElem? (i := 2) rfl)))) (pv28.mono (Le.kk.trans (Le.zz fun x hx => (List.mem_append.1 hx).elim (fun hx => (List.mem_cons_of_mem _ (List.mem_cons_of_mem _ (List.mem_cons_of_mem _ (List.mem_append_left _ hx))))) (fun hx => by rw [List.mem_singleton.1 hx]; exact List.mem_of_getElem? (i := 1) rfl)))))) (run_call1 Tryd.call9 rfl) ?_
  intro v34 w35 Z37 hH36 hp38
  have hH39 : Hp _ w35 (_ :: _ :: _ :: (Z37 ++ (Z23 ++ Z9))) := hH36.zin (L := [_, _, _]) (L' := (Z23 ++ Z9))
  obtain ⟨p40, rfl, psh41, pv42⟩ := hp38
  have hp3 := pv42.mono (Le.kk.trans (Le.zz (Z' := _ :: _ :: _ :: (Z37 ++ (Z23 ++ Z9))) fun x hx => (List.mem_append.1 hx).elim (fun hx => (List.mem_cons_of_mem _ (List.mem_cons_of_mem _ (List.mem_cons_of_mem _ (List.mem_append_left _ hx))))) (fun hx => mem_in _ (L := [_, _, _]) hx)))
  have hex := psh41.trans (ex_prod psh13 psh27)
  refine RL.new rfl hH39 (f := fun b => (.pointer (some ⟨b, 0, none⟩))) (run_alloc Tryd.zeroValue24) ?_
  intro b45 w43 hH44
  refine RL.set hH44 (i := 0) rfl (run_stShp hp3 rfl rfl rfl (hH44.blk (i := 0) rfl) rfl) ?_
  intro w46 hH47
  simp only [List.set_cons_zero, List.set_cons_succ] at hH47
  refine RL.nil ?_
  refine CW.seq ?_
  refine CW.region ?_
  refine RL.val rfl (run_ldA (cs := [B _, _]) Tryd.underlying24 rfl rfl rfl (rangeAt_cells (hH47.blk (i := 0) rfl))) ?_
  refine RL.callP rfl hH47 (c_shape_Right _  _ (hp3.mono (hH47.kz (Le.refl _) fun x hx => List.mem_cons_of_mem _ hx)) (hT.hp hH47)) (run_call1 Tryd.call11 rfl) ?_
  intro w48 hH49
  refine RL.val rfl (run_move (v := B _) rfl) ?_
  refine RL.gT rfl (bR (c := true) ((by rw [hex]; exact ex_R))) ?_
  refine RL.val rfl (run_ldA (cs := [B _, _]) Tryd.underlying24 rfl rfl rfl (rangeAt_cells (hH49.blk (i := 0) rfl))) ?_
  refine RL.gT rfl (bR (c := true) ((by rw [hex]; exact ex_R))) ?_
  refine RL.callP rfl hH49 (c_shape_Height _  _ (hp3.mono (hH49.kz (Le.refl _) fun x hx => List.mem_cons_of_mem _ hx)) (hT.hp hH49)) (run_call1 Tryd.call16 rfl) ?_
  intro w51 hH52
  refine RL.gT rfl (bR (c := true) ((by rw [hex]; exact ex_R))) ?_
  refine RL.val rfl (run_eql rfl rfl) ?_
  refine RL.val rfl (run_pickT (bR (c := true) ((by rw [hex]; exact ex_R))) (v := B _) rfl) ?_
  refine RL.val rfl (run_move (v := B _) rfl) ?_
  refine RL.gT rfl (bT ((by rw [hex]; exact ex_H))) ?_
  refine RL.val rfl (run_ldA (cs := [B _, _]) Tryd.underlying24 rfl rfl rfl (rangeAt_cells (hH52.blk (i := 0) rfl))) ?_
  refine RL.gT rfl (bT ((by rw [hex]; exact ex_H))) ?_
  refine RL.callP rfl hH52 (c_shape_Top _  _ (hp3.mono (hH52.kz (Le.refl _) fun x hx => List.mem_cons_of_mem _ hx)) (hT.hp hH52)) (run_call1 Tryd.call14 rfl) ?_
  intro w54 hH55
  refine RL.gT rfl (bT ((by rw [hex]; exact ex_H))) ?_
  refine RL.val rfl (run_bld (vs := [(0, U 3#64), (1, U 3#64)]) rfl (built_el2 _ _)) ?_
  refine RL.gT rfl (bT ((by rw [hex]; exact ex_H))) ?_
  refine RL.val rfl (run_eqlEl elT_fact rfl rfl) ?_
  refine RL.val rfl (run_pickT (bT ((by rw [hex]; exact ex_H))) (v := B _) rfl) ?_
  refine RL.val rfl (run_move (v := B _) rfl) ?_
  refine RL.gT rfl (bT ((by rw [hex]; exact ex_T))) ?_
  refine RL.val rfl (run_ldA (cs := [B _, _]) Tryd.underlying24 rfl rfl rfl (rangeAt_cells (hH55.blk (i := 0) rfl))) ?_
  refine RL.gT rfl (bT ((by rw [hex]; exact ex_T))) ?_
  refine RL.val rfl (run_bld (vs := [(0, U 1#64), (1, U 2#64)]) rfl (built_el2 _ _)) ?_
  refine RL.gT rfl (bT ((by rw [hex]; exact ex_T))) ?_
  refine RL.callP rfl hH55 (c_shape_Fits _ _  _ (hp3.mono (hH55.kz (Le.refl _) fun x hx => List.mem_cons_of_mem _ hx)) (hT.hp hH55)) (run_call2 Tryd.call13 rfl rfl) ?_
  intro w57 hH58
  refine RL.val rfl (run_pickT (bT ((by rw [hex]; exact ex_T))) (v := B _) rfl) ?_
  refine RL.val rfl (run_assign (v := B _) rfl) ?_
  refine RL.nil ?_
  refine CW.ret ?_
  refine outP1 Tryd.results7 (congrArg B ?_) hH58.below
  (rw [hex]; exact ex_F)

theorem c_clearancelaw07_ShapeSteps (s : Shp) (v : Value) (l : List El) (w : World) (hs : ShpV (Kw w) s) (hl : Sl w v 8 l.length (l.flatMap elL)) (hT : Tab w) : Calls Tryd.prog 4 #[.agg (shpC s), v] w (Pure (B true) w) := by
  have hm := hl.small
  unfold maxLen at hm
  refine enter Tryd.func4 rfl Tryd.ntmps4 rfl ?_
  have hH := Hp.start w
  refine CW.seq ?_
  refine CW.region ?_
  refine RL.new rfl hH (f := fun b => (.pointer (some ⟨b, 0, none⟩))) (run_box (v := .agg _) rfl) ?_
  intro b3 w1 hH2
  refine RL.val rfl (run_assign (v := B false) rfl) ?_
  refine RL.nil ?_
  refine CW.seq ?_
  refine CW.seq ?_
  refine CW.region ?_
  refine RL.val rfl (run_ldA (cs := [B _, _]) Tryd.underlying24 rfl rfl rfl (rangeAt_cells (hH2.blk (i := 0) rfl))) ?_
  refine RL.callP rfl hH2 (c_clearancelaw07_Big _  _ (hs.mono hH2.kw)) (run_call1 Tryd.call6 rfl) ?_
  intro w4 hH5
  refine RL.val rfl (run_move (v := B _) rfl) ?_
  refine RL.split (dj := 11) rfl (fun h7 => ?_) (fun h7 => ?_)
  · refine RL.gF rfl rfl (bR (c := true) h7) rfl ?_
    refine RL.gF rfl rfl (bR (c := true) h7) rfl ?_
    refine RL.gF rfl rfl (bR (c := true) h7) rfl ?_
    refine RL.val rfl (run_pickT (bR (c := true) h7) (v := B true) rfl) ?_
    refine RL.val rfl (run_move (v := B _) rfl) ?_
    refine RL.gF rfl rfl rfl rfl ?_
    refine RL.gF rfl rfl rfl rfl ?_
    refine RL.gF rfl rfl rfl rfl ?_
    refine RL.val rfl (run_pickT rfl (v := B true) rfl) ?_
    refine RL.nil ?_
    refine CW.condT rfl ?_
    refine CW.seq ?_
    refine CW.region ?_
    refine RL.callP rfl hH5 (c_clearancelaw07_alive   _ (hT.hp hH5)) (run_call0 Tryd.call7) ?_
    intro w8 hH9
    refine RL.val rfl (run_assign (v := B _) rfl) ?_
    refine RL.nil ?_
    refine CW.ret ?_
    refine outP1 Tryd.results4 (congrArg B ?_) hH9.below
    rfl
  · refine RL.gT rfl (bR (c := false) h7) ?_
    refine RL.val rfl (run_ldA (cs := [B _, _]) Tryd.underlying24 rfl rfl rfl (rangeAt_cells (hH5.blk (i := 0) rfl))) ?_
    refine RL.gT rfl (bR (c := false) h7) ?_
    refine RL.callP rfl hH5 (c_shape_Right _  _ (hs.mono hH5.kw) (hT.hp hH5)) (run_call1 Tryd.call11 rfl) ?_
    intro w11 hH12
    refine RL.gT rfl (bR (c := false) h7) ?_
    refine RL.val rfl (run_not rfl) ?_
    refine RL.val rfl (run_pickF (bR (c := false) h7) (v := B _) rfl) ?_
    refine RL.val rfl (run_move (v := B _) rfl) ?_
    refine RL.split (dj := 16) rfl (fun h15 => ?_) (fun h15 => ?_)
    · refine RL.gF rfl rfl (bR (c := true) h15) rfl ?_
      refine RL.gF rfl rfl (bR (c := true) h15) rfl ?_
      refine RL.gF rfl rfl (bR (c := true) h15) rfl ?_
      refine RL.val rfl (run_pickT (bR (c := true) h15) (v := B true) rfl) ?_
      refine RL.nil ?_
      refine CW.condT rfl ?_
      refine CW.seq ?_
      refine CW.region ?_
      refine RL.callP rfl hH12 (c_clearancelaw07_alive   _ (hT.hp hH12)) (run_call0 Tryd.call7) ?_
      intro w16 hH17
      refine RL.val rfl (run_assign (v := B _) rfl) ?_
      refine RL.nil ?_
      refine CW.ret ?_
      refine outP1 Tryd.results4 (congrArg B ?_) hH17.below
      rfl
    · refine RL.gT rfl (bR (c := false) h15) ?_
      refine RL.val rfl (run_move (by conv => lhs; whnf)) ?_
      refine RL.gT rfl (bR (c := false) h15) ?_
      refine RL.val rfl (run_lenSl (hl.hp hH12) rfl Tryd.underlying38 rfl) ?_
      refine RL.gT rfl (bR (c := false) h15) ?_
      refine RL.val rfl (run_gtr rfl rfl) ?_
      refine RL.val rfl (run_pickF (bR (c := false) h15) (v := B _) rfl) ?_
      refine RL.nil ?_
      refine CW.condP rfl (fun h20 => ?_) (fun h20 => ?_)
      · refine CW.seq ?_
        refine CW.region ?_
        refine RL.callP rfl hH12 (c_clearancelaw07_alive   _ (hT.hp hH12)) (run_call0 Tryd.call7) ?_
        intro w21 hH22
        refine RL.val rfl (run_assign (v := B _) rfl) ?_
        refine RL.nil ?_
        refine CW.ret ?_
        refine outP1 Tryd.results4 (congrArg B ?_) hH22.below
        rfl
      · refine CW.skip ?_
        refine CW.seq ?_
        refine CW.region ?_
        refine RL.val rfl (run_ldA (cs := [B _, _]) Tryd.underlying24 rfl rfl rfl (rangeAt_cells (hH12.blk (i := 0) rfl))) ?_
        refine RL.callP rfl hH12 (c_shape_Bottom _  _ (hs.mono hH12.kw) (hT.hp hH12)) (run_call1 Tryd.call12 rfl) ?_
        intro w24 hH25
        refine RL.new rfl hH25 (f := fun b => (.pointer (some ⟨b, 0, none⟩))) (run_alloc zero_el) ?_
        intro b28 w26 hH27
        refine RL.set hH27 (i := 0) rfl (run_stEl rfl rfl rfl (hH27.blk (i := 0) rfl)) ?_
        intro w29 hH30
        simp only [List.set_cons_zero, List.set_cons_succ] at hH30
        refine RL.nil ?_
        refine CW.seq ?_
        refine CW.seq ?_
        refine CW.regionD (by kernel_rfl) hH30 ?_
        intro w31 hH32
        refine AN.take 0 rfl rfl (by kernel_rfl) (by kernel_rfl) (by kernel_rfl) (hH32.sub (List.Sublist.refl _)) (fun w hS => run_ldA (cs := [B _, _]) Tryd.underlying24 rfl rfl rfl (rangeAt_cells (hS.blk (i := 1) rfl))) ?_
        refine AN.take 1 rfl rfl (by kernel_rfl) (by kernel_rfl) (by kernel_rfl) (hH32.sub (List.Sublist.refl _)) (fun w hS => run_ldEl Tryd.underlying40 rfl rfl rfl (hS.blk (i := 0) rfl)) ?_
        refine AN.one 2 (by kernel_rfl) ?_
        refine AO.callP rfl gnone rfl hH32 (List.Sublist.refl _) (c_shape_Fits _ _  _ (hs.mono hH32.kw) (hT.hp hH32)) (run_call2 Tryd.call13 rfl rfl) ?_
        intro w33 hH34
        refine AN.take 3 rfl rfl (by kernel_rfl) (by kernel_rfl) (by kernel_rfl) (hH34.sub (List.Sublist.refl _)) (fun w hS => run_not (bR (c := true) ((e_bot (nf ‹(!shR s.sh) = false›)).1))) ?_
        refine AN.take 4 rfl rfl (by kernel_rfl) (by kernel_rfl) (by kernel_rfl) (hH34.sub (List.Sublist.refl _)) (fun w hS => run_move (v := B _) rfl) ?_
        refine AN.takeG 5 rfl rfl rfl rfl (by kernel_rfl) (by kernel_rfl) (by kernel_rfl) (hH34.sub (List.Sublist.refl _)) (fun w hS => run_ldA (cs := [B _, _]) Tryd.underlying24 rfl rfl rfl (rangeAt_cells (hS.blk (i := 1) rfl))) ?_
        refine AN.takeG 6 rfl rfl rfl rfl (by kernel_rfl) (by kernel_rfl) (by kernel_rfl) (hH34.sub (List.Sublist.refl _)) (fun w hS => run_ldA (cs := [B _, _]) Tryd.underlying24 rfl rfl rfl (rangeAt_cells (hS.blk (i := 1) rfl))) ?_
        refine AN.one 7 (by kernel_rfl) ?_
        refine AO.callP rfl (gsome rfl rfl) rfl hH34 (List.Sublist.refl _) (c_shape_Top _  _ (hs.mono hH34.kw) (hT.hp hH34)) (run_call1 Tryd.call14 rfl) ?_
        intro w36 hH37
        refine AN.one 8 (by kernel_rfl) ?_
        refine AO.callP rfl (gsome rfl rfl) rfl hH37 (List.Sublist.refl _) (c_shape_Fits _ _  _ (hs.mono hH37.kw) (hT.hp hH37)) (run_call2 Tryd.call13 rfl rfl) ?_
        intro w38 hH39
        refine AN.takeG 9 rfl rfl rfl rfl (by kernel_rfl) (by kernel_rfl) (by kernel_rfl) (hH39.sub (List.Sublist.refl _)) (fun w hS => run_not (bR (c := true) ((e_top (nf ‹(!shR s.sh) = false›)).1))) ?_
        refine AN.take 10 rfl rfl (by kernel_rfl) (by kernel_rfl) (by kernel_rfl) (hH39.sub (List.Sublist.refl _)) (fun w hS => run_pickF rfl (v := B _) rfl) ?_
        refine AN.done (by kernel_rfl) ?_
        refine CW.condF rfl ?_
        refine CW.skip ?_
        refine CW.seq ?_
        refine CW.region ?_
        refine RL.val rfl (run_assign (v := I 0) rfl) ?_
        refine RL.nil ?_
        refine CW.seq ?_
        refine CW.seq ?_
        refine CW.region ?_
        refine RL.val rfl (run_assign (v := I 0) rfl) ?_
        refine RL.nil ?_
        refine CW.block ?_
        refine CW.loop (G := (Int) × (Int) × (El)) (fun (⟨k, n, e0⟩ : (Int) × (Int) × (El)) s' w' => (Fr [6, 7, 8, 35, 36, 37, 38, 39, 40, 41, 42, 43, 44, 45, 46, 47, 48, 49, 50, 51, 52, 53, 54, 55, 56, 57, 58, 59, 60] _ s') ∧ (Hp w w' (.blk b28 (.cells (elC e0) 40 (0, 0)) :: _)) ∧ (s' 6 = I n) ∧ (s' 7 = I k) ∧ (0 ≤ k) ∧ (k ≤ l.length) ∧ (fitsS s.sh e0 = true) ∧ (0 ≤ n ∧ n ≤ rankS s.sh e0) ∧ (n ≤ k)) (fun (⟨k, n, e0⟩ : (Int) × (Int) × (El)) => (l.length - k).toNat) ((0, 0, (eachS s.sh leastF))) ⟨Fr.refl _ _, hH39, rfl, rfl, (by omega), (by omega), (e_bot (nf ‹(!shR s.sh) = false›)).1, ⟨by omega, rank_pos _ _⟩, (by omega)⟩ ?_
        rintro ⟨k, n, e0⟩ sg41 w41 ⟨fr41, hH41, e6_41, e7_41, h0, hk, hf, hn, hnk⟩
        have e1_41 := (fr41 1 rfl).trans (by conv => lhs; whnf)
        have e2_41 : sg41 2 = .pointer (some ⟨_, _, none⟩) := (fr41 2 rfl).trans rfl
        have e4_41 : sg41 4 = B _ := (fr41 4 rfl).trans rfl
        have e5_41 : sg41 5 = .pointer (some ⟨_, _, none⟩) := (fr41 5 rfl).trans rfl
        refine CW.seq ?_
        refine CW.seq ?_
        refine CW.region ?_
        refine RL.val rfl (run_move e7_41) ?_
        refine RL.val rfl (run_move e1_41) ?_
        refine RL.val rfl (run_lenSl (hl.hp hH41) rfl Tryd.underlying38 rfl) ?_
        refine RL.val rfl (run_lss rfl rfl) ?_
        refine RL.nil ?_
        refine CW.condP rfl (fun h43 => ?_) (fun h43 => ?_)
        · refine CW.skip ?_
          refine CW.seq ?_
          refine CW.block ?_
          refine CW.seq ?_
          refine CW.seq ?_
          refine CW.regionD (by kernel_rfl) hH41 ?_
          intro w44 hH45
          refine AN.take 0 rfl rfl (by kernel_rfl) (by kernel_rfl) (by kernel_rfl) (hH45.sub (List.Sublist.refl _)) (fun w hS => run_ldA (cs := [B _, _]) Tryd.underlying24 rfl rfl e2_41 (rangeAt_cells (hS.blk (i := 1) rfl))) ?_
          refine AN.take 1 rfl rfl (by kernel_rfl) (by kernel_rfl) (by kernel_rfl) (hH45.sub (List.Sublist.refl _)) (fun w hS => run_move e1_41) ?_
          refine AN.take 2 rfl rfl (by kernel_rfl) (by kernel_rfl) (by kernel_rfl) (hH45.sub (List.Sublist.refl _)) (fun w hS => run_move e7_41) ?_
          refine AN.take 3 rfl rfl (by kernel_rfl) (by kernel_rfl) (by kernel_rfl) (hH45.sub (List.Sublist.refl _)) (fun w hS => run_indexAddrS (hl.hp hS) Tryd.underlying38 Tryd.sizeOf40 rfl rfl (by omega)) ?_
          refine AN.take 4 rfl rfl (by kernel_rfl) (by kernel_rfl) (by kernel_rfl) (hH45.sub (List.Sublist.refl _)) (fun w hS => run_ldElS (hl.hp hS) Tryd.underlying40 rfl rfl rfl (by omega)) ?_
          refine AN.one 5 (by kernel_rfl) ?_
          refine AO.callP rfl gnone rfl hH45 (List.Sublist.refl _) (c_shape_Fits _ _  _ (hs.mono hH45.kw) (hT.hp hH45)) (run_call2 Tryd.call13 rfl rfl) ?_
          intro w46 hH47
          refine AN.take 6 rfl rfl (by kernel_rfl) (by kernel_rfl) (by kernel_rfl) (hH47.sub (List.Sublist.refl _)) (fun w hS => run_not rfl) ?_
          refine AN.done (by kernel_rfl) ?_
          refine CW.cond rfl (fun h50 => ?_) (fun h50 => ?_)
          · refine CW.exit (id := 1) rfl ?_
            refine CW.region ?_
            refine RL.val rfl (run_move e7_41) ?_
            refine RL.val rfl (run_add rfl rfl (by omega)) ?_
            refine RL.val rfl (run_assign (v := I _) rfl) ?_
            refine RL.nil ?_
            refine ⟨(k + 1, _, _), ?_, (((((((((((((fr41.u rfl).u rfl).u rfl).u rfl).u rfl).u rfl).u rfl).u rfl).u rfl).u rfl).u rfl).u rfl).u rfl).u rfl, hH47, e6_41, (congrArg I (by first | rfl | omega)), ?_, ?_, ?_, ?_, ?_⟩
            · ((try dsimp only); omega)
            · omega
            · omega
            · first | exact hf | exact e_join hf (nf ‹(!fitsS s.sh _) = false›)
            · first | exact hn | exact steps_up hf (nf ‹(!fitsS s.sh _) = false›) hn ‹_› | exact steps_same hf (nf ‹(!fitsS s.sh _) = false›) hn ‹_›
            · omega
          · refine CW.skip ?_
            refine CW.seq ?_
            refine CW.regionD (by kernel_rfl) hH47 ?_
            intro w51 hH52
            refine AN.take 0 rfl rfl (by kernel_rfl) (by kernel_rfl) (by kernel_rfl) (hH52.sub (List.Sublist.refl _)) (fun w hS => run_ldA (cs := [B _, _]) Tryd.underlying24 rfl rfl e2_41 (rangeAt_cells (hS.blk (i := 1) rfl))) ?_
            refine AN.take 1 rfl rfl (by kernel_rfl) (by kernel_rfl) (by kernel_rfl) (hH52.sub (List.Sublist.refl _)) (fun w hS => run_ldEl Tryd.underlying40 rfl rfl e5_41 (hS.blk (i := 0) rfl)) ?_
            refine AN.take 2 rfl rfl (by kernel_rfl) (by kernel_rfl) (by kernel_rfl) (hH52.sub (List.Sublist.refl _)) (fun w hS => run_move e1_41) ?_
            refine AN.take 3 rfl rfl (by kernel_rfl) (by kernel_rfl) (by kernel_rfl) (hH52.sub (List.Sublist.refl _)) (fun w hS => run_move e7_41) ?_
            refine AN.take 4 rfl rfl (by kernel_rfl) (by kernel_rfl) (by kernel_rfl) (hH52.sub (List.Sublist.refl _)) (fun w hS => run_indexAddrS (hl.hp hS) Tryd.underlying38 Tryd.sizeOf40 rfl rfl (by omega)) ?_
            refine AN.take 5 rfl rfl (by kernel_rfl) (by kernel_rfl) (by kernel_rfl) (hH52.sub (List.Sublist.refl _)) (fun w hS => run_ldElS (hl.hp hS) Tryd.underlying40 rfl rfl rfl (by omega)) ?_
            refine AN.two 6 7 (by kernel_rfl) ?_ ?_
            · refine AO.callP rfl gnone rfl hH52 (List.Sublist.refl _) (c_shape_Join _ _ _  _ (hs.mono hH52.kw) (hT.hp hH52)) (run_call3 Tryd.call15 rfl rfl rfl) ?_
              intro w53 hH54
              refine AN.one 7 (by kernel_rfl) ?_
              refine AO.new rfl gnone rfl hH54 (List.Sublist.refl _) (f := fun b => .pointer (some ⟨b, 0, none⟩)) (run_alloc zero_el) ?_
              intro b57 w55 hH56
              refine AN.one 8 (by kernel_rfl) ?_
              refine AO.set rfl gnone hH56 (j := 0) rfl (.cons _ (List.Sublist.refl _)) (run_stEl rfl rfl rfl (hH56.blk (i := 0) rfl)) ?_
              intro w60 hH61
              simp only [List.set_cons_zero, List.set_cons_succ] at hH61
              refine AN.done (by kernel_rfl) ?_
              refine CW.seq ?_
              refine CW.seq ?_
              refine CW.region ?_
              refine RL.val rfl (run_ldEl Tryd.underlying40 rfl rfl rfl (hH61.blk (i := 0) rfl)) ?_
              refine RL.val rfl (run_ldEl Tryd.underlying40 rfl rfl e5_41 (hH61.blk (i := 1) rfl)) ?_
              refine RL.val rfl (run_neqEl elT_fact rfl rfl) ?_
              refine RL.nil ?_
              refine CW.cond rfl (fun h63 => ?_) (fun h63 => ?_)
              · refine CW.region ?_
                refine RL.val rfl (run_move e6_41) ?_
                refine RL.val rfl (run_add rfl rfl (by omega)) ?_
                refine RL.val rfl (run_assign (v := I _) rfl) ?_
                refine RL.nil ?_
                refine CW.region ?_
                refine RL.val rfl (run_ldEl Tryd.underlying40 rfl rfl rfl (hH61.blk (i := 0) rfl)) ?_
                refine RL.set hH61 (i := 1) rfl (run_stEl rfl e5_41 rfl (hH61.blk (i := 1) rfl)) ?_
                intro w64 hH65
                simp only [List.set_cons_zero, List.set_cons_succ] at hH65
                refine RL.nil ?_
                refine CW.region ?_
                refine RL.val rfl (run_move e7_41) ?_
                refine RL.val rfl (run_add rfl rfl (by omega)) ?_
                refine RL.val rfl (run_assign (v := I _) rfl) ?_
                refine RL.nil ?_
                refine ⟨(k + 1, _, _), ?_, ((((((((((((((((((((((((((((fr41.u rfl).u rfl).u rfl).u rfl).u rfl).u rfl).u rfl).u rfl).u rfl).u rfl).u rfl).u rfl).u rfl).u rfl).u rfl).u rfl).u rfl).u rfl).u rfl).u rfl).u rfl).u rfl).u rfl).u rfl).u rfl).u rfl).u rfl).u rfl).u rfl, (hH65.sub (.cons _ (List.Sublist.refl _))), (congrArg I (by first | rfl | omega)), (congrArg I (by first | rfl | omega)), ?_, ?_, ?_, ?_, ?_⟩
                · ((try dsimp only); omega)
                · omega
                · omega
                · first | exact hf | exact e_join hf (nf ‹(!fitsS s.sh _) = false›)
                · first | exact hn | exact steps_up hf (nf ‹(!fitsS s.sh _) = false›) hn ‹_› | exact steps_same hf (nf ‹(!fitsS s.sh _) = false›) hn ‹_›
                · omega
              · refine CW.skip ?_
                refine CW.region ?_
                refine RL.val rfl (run_ldEl Tryd.underlying40 rfl rfl rfl (hH61.blk (i := 0) rfl)) ?_
                refine RL.set hH61 (i := 1) rfl (run_stEl rfl e5_41 rfl (hH61.blk (i := 1) rfl)) ?_
                intro w66 hH67
                simp only [List.set_cons_zero, List.set_cons_succ] at hH67
                refine RL.nil ?_
                refine CW.region ?_
                refine RL.val rfl (run_move e7_41) ?_
                refine RL.val rfl (run_add rfl rfl (by omega)) ?_
                refine RL.val rfl (run_assign (v := I _) rfl) ?_
                refine RL.nil ?_
                refine ⟨(k + 1, _, _), ?_, (((((((((((((((((((((((((fr41.u rfl).u rfl).u rfl).u rfl).u rfl).u rfl).u rfl).u rfl).u rfl).u rfl).u rfl).u rfl).u rfl).u rfl).u rfl).u rfl).u rfl).u rfl).u rfl).u rfl).u rfl).u rfl).u rfl).u rfl).u rfl).u rfl, (hH67.sub (.cons _ (List.Sublist.refl _))), e6_41, (congrArg I (by first | rfl | omega)), ?_, ?_, ?_, ?_, ?_⟩
                · ((try dsimp only); omega)
                · omega
                · omega
                · first | exact hf | exact e_join hf (nf ‹(!fitsS s.sh _) = false›)
                · first | exact hn | exact steps_up hf (nf ‹(!fitsS s.sh _) = false›) hn ‹_› | exact steps_same hf (nf ‹(!fitsS s.sh _) = false›) hn ‹_›
                · omega
            · refine AO.new rfl gnone rfl hH52 (List.Sublist.refl _) (f := fun b => .pointer (some ⟨b, 0, none⟩)) (run_alloc zero_el) ?_
              intro b70 w68 hH69
              refine AN.one 6 (by kernel_rfl) ?_
              refine AO.callP rfl gnone rfl hH69 (.cons _ (List.Sublist.refl _)) (c_shape_Join _ _ _  _ (hs.mono hH69.kw) (hT.hp hH69)) (run_call3 Tryd.call15 rfl rfl rfl) ?_
              intro w71 hH72
              refine AN.one 8 (by kernel_rfl) ?_
              refine AO.set rfl gnone hH72 (j := 0) rfl (.cons _ (List.Sublist.refl _)) (run_stEl rfl rfl rfl (hH72.blk (i := 0) rfl)) ?_
              intro w75 hH76
              simp only [List.set_cons_zero, List.set_cons_succ] at hH76
              refine AN.done (by kernel_rfl) ?_
              refine CW.seq ?_
              refine CW.seq ?_
              refine CW.region ?_
              refine RL.val rfl (run_ldEl Tryd.underlying40 rfl rfl rfl (hH76.blk (i := 0) rfl)) ?_
              refine RL.val rfl (run_ldEl Tryd.underlying40 rfl rfl e5_41 (hH76.blk (i := 1) rfl)) ?_
              refine RL.val rfl (run_neqEl elT_fact rfl rfl) ?_
              refine RL.nil ?_
              refine CW.cond rfl (fun h78 => ?_) (fun h78 => ?_)
              · refine CW.region ?_
                refine RL.val rfl (run_move e6_41) ?_
                refine RL.val rfl (run_add rfl rfl (by omega)) ?_
                refine RL.val rfl (run_assign (v := I _) rfl) ?_
                refine RL.nil ?_
                refine CW.region ?_
                refine RL.val rfl (run_ldEl Tryd.underlying40 rfl rfl rfl (hH76.blk (i := 0) rfl)) ?_
                refine RL.set hH76 (i := 1) rfl (run_stEl rfl e5_41 rfl (hH76.blk (i := 1) rfl)) ?_
                intro w79 hH80
                simp only [List.set_cons_zero, List.set_cons_succ] at hH80
                refine RL.nil ?_
                refine CW.region ?_
                refine RL.val rfl (run_move e7_41) ?_
                refine RL.val rfl (run_add rfl rfl (by omega)) ?_
                refine RL.val rfl (run_assign (v := I _) rfl) ?_
                refine RL.nil ?_
                refine ⟨(k + 1, _, _), ?_, ((((((((((((((((((((((((((((fr41.u rfl).u rfl).u rfl).u rfl).u rfl).u rfl).u rfl).u rfl).u rfl).u rfl).u rfl).u rfl).u rfl).u rfl).u rfl).u rfl).u rfl).u rfl).u rfl).u rfl).u rfl).u rfl).u rfl).u rfl).u rfl).u rfl).u rfl).u rfl).u rfl, (hH80.sub (.cons _ (List.Sublist.refl _))), (congrArg I (by first | rfl | omega)), (congrArg I (by first | rfl | omega)), ?_, ?_, ?_, ?_, ?_⟩
                · ((try dsimp only); omega)
                · omega
                · omega
                · first | exact hf | exact e_join hf (nf ‹(!fitsS s.sh _) = false›)
                · first | exact hn | exact steps_up hf (nf ‹(!fitsS s.sh _) = false›) hn ‹_› | exact steps_same hf (nf ‹(!fitsS s.sh _) = false›) hn ‹_›
                · omega
              · refine CW.skip ?_
                refine CW.region ?_
                refine RL.val rfl (run_ldEl Tryd.underlying40 rfl rfl rfl (hH76.blk (i := 0) rfl)) ?_
                refine RL.set hH76 (i := 1) rfl (run_stEl rfl e5_41 rfl (hH76.blk (i := 1) rfl)) ?_
                intro w81 hH82
                simp only [List.set_cons_zero, List.set_cons_succ] at hH82
                refine RL.nil ?_
                refine CW.region ?_
                refine RL.val rfl (run_move e7_41) ?_
                refine RL.val rfl (run_add rfl rfl (by omega)) ?_
                refine RL.val rfl (run_assign (v := I _) rfl) ?_
                refine RL.nil ?_
                refine ⟨(k + 1, _, _), ?_, (((((((((((((((((((((((((fr41.u rfl).u rfl).u rfl).u rfl).u rfl).u rfl).u rfl).u rfl).u rfl).u rfl).u rfl).u rfl).u rfl).u rfl).u rfl).u rfl).u rfl).u rfl).u rfl).u rfl).u rfl).u rfl).u rfl).u rfl).u rfl).u rfl, (hH82.sub (.cons _ (List.Sublist.refl _))), e6_41, (congrArg I (by first | rfl | omega)), ?_, ?_, ?_, ?_, ?_⟩
                · ((try dsimp only); omega)
                · omega
                · omega
                · first | exact hf | exact e_join hf (nf ‹(!fitsS s.sh _) = false›)
                · first | exact hn | exact steps_up hf (nf ‹(!fitsS s.sh _) = false›) hn ‹_› | exact steps_same hf (nf ‹(!fitsS s.sh _) = false›) hn ‹_›
                · omega
        · refine CW.exit (id := 0) rfl ?_
          refine CW.seq ?_
          refine CW.region ?_
          refine RL.val rfl (run_move e6_41) ?_
          refine RL.val rfl (run_ldA (cs := [B _, _]) Tryd.underlying24 rfl rfl e2_41 (rangeAt_cells (hH41.blk (i := 1) rfl))) ?_
          refine RL.callP rfl hH41 (c_shape_Height _  _ (hs.mono hH41.kw) (hT.hp hH41)) (run_call1 Tryd.call16 rfl) ?_
          intro w83 hH84
          refine RL.val rfl (run_leq rfl rfl) ?_
          refine RL.val rfl (run_move (v := B _) rfl) ?_
          refine RL.gT rfl (bT ((by have := rankS_le hf; omega))) ?_
          refine RL.callP rfl hH84 (c_clearancelaw07_alive   _ (hT.hp hH84)) (run_call0 Tryd.call7) ?_
          intro w86 hH87
          refine RL.val rfl (run_pickT (bT ((by have := rankS_le hf; omega))) (v := B _) rfl) ?_
          refine RL.val rfl (run_assign (v := B _) rfl) ?_
          refine RL.nil ?_
          refine CW.ret ?_
          refine outP1 Tryd.results4 (congrArg B ?_) hH87.below
          rfl

theorem c_clearancelaw07_ShapeProduct (a b c : Shp) (w : World) (ha : ShpV (Kw w) a) (hb : ShpV (Kw w) b) (hc : ShpV (Kw w) c) (hT : Tab w) : Calls Tryd.prog 3 #[.agg (shpC a), .agg (shpC b), .agg (shpC c)] w (Pure (B true) w) := by
  refine enter Tryd.func3 rfl Tryd.ntmps3 rfl ?_
  have hH := Hp.start w
  refine CW.seq ?_
  refine CW.region ?_
  refine RL.new rfl hH (f := fun b => (.pointer (some ⟨b, 0, none⟩))) (run_box (v := .agg _) rfl) ?_
  intro b3 w1 hH2
  refine RL.new rfl hH2 (f := fun b => (.pointer (some ⟨b, 0, none⟩))) (run_box (v := .agg _) rfl) ?_
  intro b6 w4 hH5
  refine RL.new rfl hH5 (f := fun b => (.pointer (some ⟨b, 0, none⟩))) (run_box (v := .agg _) rfl) ?_
  intro b9 w7 hH8
  refine RL.val rfl (run_assign (v := B false) rfl) ?_
  refine RL.nil ?_
  refine CW.seq ?_
  refine CW.seq ?_
  refine CW.region ?_
  refine RL.val rfl (run_ldA (cs := [B _, _]) Tryd.underlying24 rfl rfl rfl (rangeAt_cells (hH8.blk (i := 2) rfl))) ?_
  refine RL.callP rfl hH8 (c_clearancelaw07_Big _  _ (ha.mono hH8.kw)) (run_call1 Tryd.call6 rfl) ?_
  intro w10 hH11
  refine RL.val rfl (run_move (v := B _) rfl) ?_
  refine RL.split (dj := 11) rfl (fun h13 => ?_) (fun h13 => ?_)
  · refine RL.gF rfl rfl (bR (c := true) h13) rfl ?_
    refine RL.gF rfl rfl (bR (c := true) h13) rfl ?_
    refine RL.val rfl (run_pickT (bR (c := true) h13) (v := B true) rfl) ?_
    refine RL.val rfl (run_move (v := B _) rfl) ?_
    refine RL.gF rfl rfl rfl rfl ?_
    refine RL.gF rfl rfl rfl rfl ?_
    refine RL.val rfl (run_pickT rfl (v := B true) rfl) ?_
    refine RL.nil ?_
    refine CW.condT rfl ?_
    refine CW.seq ?_
    refine CW.region ?_
    refine RL.callP rfl hH11 (c_clearancelaw07_alive   _ (hT.hp hH11)) (run_call0 Tryd.call7) ?_
    intro w14 hH15
    refine RL.val rfl (run_assign (v := B _) rfl) ?_
    refine RL.nil ?_
    refine CW.ret ?_
    refine outP1 Tryd.results3 (congrArg B ?_) hH15.below
    rfl
  · refine RL.gT rfl (bR (c := false) h13) ?_
    refine RL.val rfl (run_ldA (cs := [B _, _]) Tryd.underlying24 rfl rfl rfl (rangeAt_cells (hH11.blk (i := 1) rfl))) ?_
    refine RL.gT rfl (bR (c := false) h13) ?_
    refine RL.callP rfl hH11 (c_clearancelaw07_Big _  _ (hb.mono hH11.kw)) (run_call1 Tryd.call6 rfl) ?_
    intro w17 hH18
    refine RL.val rfl (run_pickF (bR (c := false) h13) (v := B _) rfl) ?_
    refine RL.val rfl (run_move (v := B _) rfl) ?_
    refine RL.split (dj := 15) rfl (fun h20 => ?_) (fun h20 => ?_)
    · refine RL.gF rfl rfl (bR (c := true) h20) rfl ?_
      refine RL.gF rfl rfl (bR (c := true) h20) rfl ?_
      refine RL.val rfl (run_pickT (bR (c := true) h20) (v := B true) rfl) ?_
      refine RL.nil ?_
      refine CW.condT rfl ?_
      refine CW.seq ?_
      refine CW.region ?_
      refine RL.callP rfl hH18 (c_clearancelaw07_alive   _ (hT.hp hH18)) (run_call0 Tryd.call7) ?_
      intro w21 hH22
      refine RL.val rfl (run_assign (v := B _) rfl) ?_
      refine RL.nil ?_
      refine CW.ret ?_
      refine outP1 Tryd.results3 (congrArg B ?_) hH22.below
      rfl
    · refine RL.gT rfl (bR (c := false) h20) ?_
      refine RL.val rfl (run_ldA (cs := [B _, _]) Tryd.underlying24 rfl rfl rfl (rangeAt_cells (hH18.blk (i := 0) rfl))) ?_
      refine RL.gT rfl (bR (c := false) h20) ?_
      refine RL.callP rfl hH18 (c_clearancelaw07_Big _  _ (hc.mono hH18.kw)) (run_call1 Tryd.call6 rfl) ?_
      intro w24 hH25
      refine RL.val rfl (run_pickF (bR (c := false) h20) (v := B _) rfl) ?_
      refine RL.nil ?_
      refine CW.cond rfl (fun h27 => ?_) (fun h27 => ?_)
      · refine CW.seq ?_
        refine CW.region ?_
        refine RL.callP rfl hH25 (c_clearancelaw07_alive   _ (hT.hp hH25)) (run_call0 Tryd.call7) ?_
        intro w28 hH29
        refine RL.val rfl (run_assign (v := B _) rfl) ?_
        refine RL.nil ?_
        refine CW.ret ?_
        refine outP1 Tryd.results3 (congrArg B ?_) hH29.below
        rfl
      · refine CW.skip ?_
        refine CW.seq ?_
        refine CW.region ?_
        have hA := big_shp ‹bigS a.sh = false›
        have hB := big_shp ‹bigS b.sh = false›
        have hC := big_shp ‹bigS c.sh = false›
        refine RL.val rfl (run_assign (v := .slice none 0 0) rfl) ?_
        have hH31 := hH25.nilRow 36 67
        refine RL.nil ?_
        refine CW.seq ?_
        refine CW.regionS (by kernel_rfl) hH31 (.cons _ (List.Sublist.refl _)) ?_
        intro w32 hH33
        refine AN.take 0 rfl rfl (by kernel_rfl) (by kernel_rfl) (by kernel_rfl) (hH33.sub (.cons _ (List.Sublist.refl _))) (fun w hS => run_move (by conv => lhs; whnf)) ?_
        refine AN.take 1 rfl rfl (by kernel_rfl) (by kernel_rfl) (by kernel_rfl) (hH33.sub (.cons _ (List.Sublist.refl _))) (fun w hS => run_fieldAddr Tryd.underlying24 rfl (off := 1) rfl Tryd.sizeOf22 (by decide) rfl) ?_
        refine AN.take 2 rfl rfl (by kernel_rfl) (by kernel_rfl) (by kernel_rfl) (hH33.sub (.cons _ (List.Sublist.refl _))) (fun w hS => run_ld Tryd.underlying22 rfl rfl (hS.cell (i := 2) rfl rfl)) ?_
        refine AN.take 4 rfl rfl (by kernel_rfl) (by kernel_rfl) (by kernel_rfl) (hH33.sub (.cons _ (List.Sublist.refl _))) (fun w hS => run_fieldAddr Tryd.underlying24 rfl (off := 1) rfl Tryd.sizeOf22 (by decide) rfl) ?_
        refine AN.take 5 rfl rfl (by kernel_rfl) (by kernel_rfl) (by kernel_rfl) (hH33.sub (.cons _ (List.Sublist.refl _))) (fun w hS => run_ld Tryd.underlying22 rfl rfl (hS.cell (i := 1) rfl rfl)) ?_
        refine AN.take 7 rfl rfl (by kernel_rfl) (by kernel_rfl) (by kernel_rfl) (hH33.sub (.cons _ (List.Sublist.refl _))) (fun w hS => run_fieldAddr Tryd.underlying24 rfl (off := 1) rfl Tryd.sizeOf22 (by decide) rfl) ?_
        refine AN.take 8 rfl rfl (by kernel_rfl) (by kernel_rfl) (by kernel_rfl) (hH33.sub (.cons _ (List.Sublist.refl _))) (fun w hS => run_ld Tryd.underlying22 rfl rfl (hS.cell (i := 0) rfl rfl)) ?_
        refine AN.one 3 (by kernel_rfl) ?_
        refine AO.app rfl gnone rfl hH33 (j := 0) rfl (fun _ => (.cons _ (List.Sublist.refl _))) (ha.facs.sl.hp hH33) rfl rfl Tryd.underlying22 rfl rfl (size := 67) (bytes := 552) rfl rfl rfl (by decide) (facs_one ha.each) (by have := hA.1; have := hB.1; have := hC.1; omega) (by have := hA.1; have := hB.1; have := hC.1; simp only [maxLen]; omega) ?_
        intro v36 w34 hH35
        simp only [List.set_cons_zero, List.set_cons_succ] at hH35
        refine AN.one 6 (by kernel_rfl) ?_
        refine AO.app rfl gnone rfl hH35 (j := 0) rfl (fun _ => (.cons _ (List.Sublist.refl _))) (hb.facs.sl.hp hH35) rfl rfl Tryd.underlying22 rfl rfl (size := 67) (bytes := 552) rfl rfl rfl (by decide) (facs_one hb.each) (by have := hA.1; have := hB.1; have := hC.1; omega) (by have := hA.1; have := hB.1; have := hC.1; simp only [maxLen]; omega) ?_
        intro v39 w37 hH38
        simp only [List.set_cons_zero, List.set_cons_succ] at hH38
        refine AN.one 9 (by kernel_rfl) ?_
        refine AO.app rfl gnone rfl hH38 (j := 0) rfl (fun _ => (.cons _ (List.Sublist.refl _))) (hc.facs.sl.hp hH38) rfl rfl Tryd.underlying22 rfl rfl (size := 67) (bytes := 552) rfl rfl rfl (by decide) (facs_one hc.each) (by have := hA.1; have := hB.1; have := hC.1; omega) (by have := hA.1; have := hB.1; have := hC.1; simp only [maxLen]; omega) ?_
        intro v42 w40 hH41
        simp only [List.set_cons_zero, List.set_cons_succ] at hH41
        refine AN.take 10 rfl rfl (by kernel_rfl) (by kernel_rfl) (by kernel_rfl) (hH41.sub (.cons _ (List.Sublist.refl _))) (fun w hS => run_assign (by conv => lhs; whnf)) ?_
        refine AN.done (by kernel_rfl) ?_
        refine CW.seq ?_
        refine CW.seq ?_
        refine CW.region ?_
        have hcv := trivial
        have hH43 := hH41.convR (n' := (a.facs ++ b.facs ++ c.facs).length) (xs' := (a.facs ++ b.facs ++ c.facs).flatMap facL) (by simp only [List.length_append]; omega) (by simp only [List.flatMap_append, List.nil_append])
        refine RL.val rfl (run_ldA (cs := [B _, _]) Tryd.underlying24 rfl rfl rfl (rangeAt_cells (hH43.blk (i := 3) rfl))) ?_
        refine RL.val rfl (run_ldA (cs := [B _, _]) Tryd.underlying24 rfl rfl rfl (rangeAt_cells (hH43.blk (i := 2) rfl))) ?_
        refine RL.val rfl (run_ldA (cs := [B _, _]) Tryd.underlying24 rfl rfl rfl (rangeAt_cells (hH43.blk (i := 1) rfl))) ?_
        refine RL.new rfl hH43 (f := fun b => (.slice (some ⟨b, 0, none⟩) 3 3)) (run_mkShps Tryd.underlying52 rfl rfl rfl (l := [a, b, c]) rfl (by decide) (by decide) rfl) ?_
        intro b46 w44 hH45
        refine RL.callF rfl hH45 (c_shape_Product (Kw w) (.slice (some ⟨b46, 0, none⟩) 3 3) [a, b, c] (show 3 ≤ 1000 by decide) (p3_fn hA.1 hB.1 hC.1) (p3_nn hA.2 hB.2 hC.2) _ hH45.kw (Hp.slFlat shpL_len hH45 (i := 0) (l := [a, b, c]) rfl (show 3 ≤ maxLen by decide)) (p3_v ha hb hc)) (run_call1 Tryd.call9 rfl) ?_
        intro v49 w50 Z52 hH51 hp53
        have hH54 : Hp _ w50 (_ :: _ :: _ :: _ :: _ :: Z52) := hH51.zin0 (L := [_, _, _, _, _])
        obtain ⟨p55, rfl, psh56, pv57⟩ := hp53
        refine RL.val rfl (run_move (by conv => lhs; whnf)) ?_
        refine RL.val rfl (run_bld (vs := [(0, B true), (1, _)]) rfl (built_shpT (row_cells (hH54.get (i := 1) rfl)).1)) ?_
        refine RL.callP rfl hH54 (c_clearanceref07_Same _ _ _ (pv57.mono (hH54.kz (Le.refl _) fun x hx => (List.mem_cons_of_mem _ (List.mem_cons_of_mem _ (List.mem_cons_of_mem _ (List.mem_cons_of_mem _ (List.mem_cons_of_mem _ hx))))))) (⟨(hH54.sl (i := 1) rfl).slv, ((p3_all ha hb hc).mono hH54.kw).each⟩ : ShpV (Kw _) ⟨true, v42, (a.facs ++ b.facs ++ c.facs)⟩)) (run_call2 Tryd.call8 rfl rfl) ?_
        intro w58 hH59
        refine RL.val rfl (run_not (bR (c := true) ((by rw [psh56, prod3 a b c]; exact sameS_refl _)))) ?_
        refine RL.nil ?_
        refine CW.condF rfl ?_
        refine CW.skip ?_
        refine CW.seq ?_
        refine CW.seq ?_
        refine CW.region ?_
        refine RL.val rfl (run_assign (v := I 0) rfl) ?_
        refine RL.nil ?_
        refine CW.block ?_
        have hfl : (a.facs ++ b.facs ++ c.facs).length ≤ 36 := by have := hA.1; have := hB.1; have := hC.1; simp only [List.length_append]; omega
        refine CW.loop (G := (Int) × (List Ent)) (fun (⟨k, Z⟩ : (Int) × (List Ent)) s' w' => (Fr [6, 8, 39, 40, 41, 42, 43, 44, 45, 46, 47, 48, 49, 50, 51, 52, 53, 54, 55, 56, 57] _ s') ∧ (Hp w w' (_ :: _ :: _ :: _ :: _ :: Z)) ∧ (s' 8 = I k) ∧ (0 ≤ k) ∧ (k ≤ (a.facs ++ b.facs ++ c.facs).length)) (fun (⟨k, Z⟩ : (Int) × (List Ent)) => ((a.facs ++ b.facs ++ c.facs).length - k).toNat) ((0, Z52)) ⟨Fr.refl _ _, hH59, rfl, (by omega), (by omega)⟩ ?_
        rintro ⟨k, Z⟩ sg61 w61 ⟨fr61, hH61, e8_61, h0, hk⟩
        have e7_61 := (fr61 7 rfl).trans (by conv => lhs; whnf)
        refine CW.seq ?_
        refine CW.seq ?_
        refine CW.region ?_
        refine RL.val rfl (run_move e8_61) ?_
        refine RL.val rfl (run_move e7_61) ?_
        refine RL.val rfl (run_lenSl (hH61.sl (i := 1) rfl) rfl Tryd.underlying22 rfl) ?_
        refine RL.val rfl (run_lss rfl rfl) ?_
        refine RL.nil ?_
        refine CW.condP rfl (fun h63 => ?_) (fun h63 => ?_)
        · refine CW.skip ?_
          refine CW.seq ?_
          refine CW.block ?_
          refine CW.seq ?_
          refine CW.regionD (by kernel_rfl) hH61 ?_
          intro w64 hH65
          refine AN.take 0 rfl rfl (by kernel_rfl) (by kernel_rfl) (by kernel_rfl) (hH65.sub (List.Sublist.refl _)) (fun w hS => run_move e7_61) ?_
          refine AN.take 1 rfl rfl (by kernel_rfl) (by kernel_rfl) (by kernel_rfl) (hH65.sub (List.Sublist.refl _)) (fun w hS => run_move e8_61) ?_
          refine AN.take 2 rfl rfl (by kernel_rfl) (by kernel_rfl) (by kernel_rfl) (hH65.sub (List.Sublist.refl _)) (fun w hS => run_indexAddrS (hS.sl (i := 1) rfl) Tryd.underlying22 Tryd.sizeOf36 rfl rfl (by omega)) ?_
          refine AN.take 3 rfl rfl (by kernel_rfl) (by kernel_rfl) (by kernel_rfl) (hH65.sub (List.Sublist.refl _)) (fun w hS => run_ldE (dv := fac0) facL_len (hS.sl (i := 1) rfl) Tryd.underlying36 rfl rfl rfl (by omega)) ?_
          refine AN.take 5 rfl rfl (by kernel_rfl) (by kernel_rfl) (by kernel_rfl) (hH65.sub (List.Sublist.refl _)) (fun w hS => run_move e7_61) ?_
          refine AN.take 6 rfl rfl (by kernel_rfl) (by kernel_rfl) (by kernel_rfl) (hH65.sub (List.Sublist.refl _)) (fun w hS => run_move e8_61) ?_
          refine AN.take 7 rfl rfl (by kernel_rfl) (by kernel_rfl) (by kernel_rfl) (hH65.sub (List.Sublist.refl _)) (fun w hS => run_move e8_61) ?_
          refine AN.take 8 rfl rfl (by kernel_rfl) (by kernel_rfl) (by kernel_rfl) (hH65.sub (List.Sublist.refl _)) (fun w hS => run_add rfl rfl (by omega)) ?_
          refine AN.two 4 9 (by kernel_rfl) ?_ ?_
          · refine AO.callF rfl gnone rfl hH65 (List.Sublist.refl _) (c_shape_One (Kw w) ((a.facs ++ b.facs ++ c.facs).getD k.toNat fac0) (by have := p3_names hA.2 hB.2 hC.2 _ (List.mem_of_getElem? (getD_at (d := fac0) h0 ‹_›)); omega) _ hH65.kw ((p3_all ha hb hc).at h0 ‹_›)) (run_call1 Tryd.call10 rfl) ?_
            intro v68 w69 Z71 hH70 hp72
            have hH73 : Hp _ w69 (_ :: _ :: _ :: _ :: _ :: (Z71 ++ Z)) := hH70.zin (L := [_, _, _, _, _]) (L' := Z)
            obtain ⟨p74, rfl, psh75, pv76⟩ := hp72
            refine AN.one 9 (by kernel_rfl) ?_
            refine AO.read rfl gnone rfl hH73 (.cons_cons _ (.cons_cons _ (.cons_cons _ (.cons_cons _ (.cons_cons _ (List.sublist_append_of_sublist_right (List.Sublist.refl _))))))) (run_part (hH73.sl (i := 1) rfl) Tryd.underlying22 Tryd.sizeOf36 rfl rfl rfl (by omega)) ?_
            refine AN.take 10 rfl rfl (by kernel_rfl) (by kernel_rfl) (by kernel_rfl) (hH73.sub (.cons_cons _ (.cons_cons _ (.cons_cons _ (.cons_cons _ (.cons_cons _ (List.sublist_append_of_sublist_right (List.Sublist.refl _)))))))) (fun w hS => run_bld (vs := [(1, _)]) rfl (built_shp1 (one_sl ((hS.sl (i := 1) rfl).part (by omega) (by omega))).2)) ?_
            refine AN.one 11 (by kernel_rfl) ?_
            refine AO.callP rfl gnone rfl hH73 (.cons_cons _ (.cons_cons _ (.cons_cons _ (.cons_cons _ (.cons_cons _ (List.sublist_append_of_sublist_right (List.Sublist.refl _))))))) (c_clearanceref07_Same _ _ _ (pv76.mono (hH73.kz (Le.refl _) fun x hx => (List.mem_cons_of_mem _ (List.mem_cons_of_mem _ (List.mem_cons_of_mem _ (List.mem_cons_of_mem _ (List.mem_cons_of_mem _ (List.mem_append_left _ hx)))))))) (⟨part_one (hH73.sl (i := 1) rfl) h0 ‹_›, fun x hx => by rw [List.mem_singleton.1 hx]; exact ((p3_all ha hb hc).mono hH73.kw).at h0 ‹_›⟩ : ShpV (Kw _) ⟨false, subV v42 67 k.toNat (k + 1).toNat, [(a.facs ++ b.facs ++ c.facs).getD k.toNat fac0]⟩)) (run_call2 Tryd.call8 rfl rfl) ?_
            intro w79 hH80
            refine AN.take 12 rfl rfl (by kernel_rfl) (by kernel_rfl) (by kernel_rfl) (hH80.sub (.cons_cons _ (.cons_cons _ (.cons_cons _ (.cons_cons _ (.cons_cons _ (List.sublist_append_of_sublist_right (List.Sublist.refl _)))))))) (fun w hS => run_not (bR (c := true) ((by rw [psh75]; exact sameS_refl _)))) ?_
            refine AN.done (by kernel_rfl) ?_
            refine CW.condF rfl ?_
            refine CW.skip ?_
            refine CW.region ?_
            refine RL.val rfl (run_move e8_61) ?_
            refine RL.val rfl (run_add rfl rfl (by omega)) ?_
            refine RL.val rfl (run_assign (v := I _) rfl) ?_
            refine RL.nil ?_
            refine ⟨(k + 1, (Z71 ++ Z)), ?_, (((((((((((((((((((fr61.u rfl).u rfl).u rfl).u rfl).u rfl).u rfl).u rfl).u rfl).u rfl).u rfl).u rfl).u rfl).u rfl).u rfl).u rfl).u rfl).u rfl).u rfl).u rfl).u rfl, hH80, (congrArg I (by first | rfl | omega)), ?_, ?_⟩
            · ((try dsimp only); omega)
            · omega
            · omega
          · refine AO.read rfl gnone rfl hH65 (List.Sublist.refl _) (run_part (hH65.sl (i := 1) rfl) Tryd.underlying22 Tryd.sizeOf36 rfl rfl rfl (by omega)) ?_
            refine AN.take 10 rfl rfl (by kernel_rfl) (by kernel_rfl) (by kernel_rfl) (hH65.sub (List.Sublist.refl _)) (fun w hS => run_bld (vs := [(1, _)]) rfl (built_shp1 (one_sl ((hS.sl (i := 1) rfl).part (by omega) (by omega))).2)) ?_
            refine AN.one 4 (by kernel_rfl) ?_
            refine AO.callF rfl gnone rfl hH65 (List.Sublist.refl _) (c_shape_One (Kw w) ((a.facs ++ b.facs ++ c.facs).getD k.toNat fac0) (by have := p3_names hA.2 hB.2 hC.2 _ (List.mem_of_getElem? (getD_at (d := fac0) h0 ‹_›)); omega) _ hH65.kw ((p3_all ha hb hc).at h0 ‹_›)) (run_call1 Tryd.call10 rfl) ?_
            intro v86 w87 Z89 hH88 hp90
            have hH91 : Hp _ w87 (_ :: _ :: _ :: _ :: _ :: (Z89 ++ Z)) := hH88.zin (L := [_, _, _, _, _]) (L' := Z)
            obtain ⟨p92, rfl, psh93, pv94⟩ := hp90
            refine AN.one 11 (by kernel_rfl) ?_
            refine AO.callP rfl gnone rfl hH91 (.cons_cons _ (.cons_cons _ (.cons_cons _ (.cons_cons _ (.cons_cons _ (List.sublist_append_of_sublist_right (List.Sublist.refl _))))))) (c_clearanceref07_Same _ _ _ (pv94.mono (hH91.kz (Le.refl _) fun x hx => (List.mem_cons_of_mem _ (List.mem_cons_of_mem _ (List.mem_cons_of_mem _ (List.mem_cons_of_mem _ (List.mem_cons_of_mem _ (List.mem_append_left _ hx)))))))) (⟨part_one (hH91.sl (i := 1) rfl) h0 ‹_›, fun x hx => by rw [List.mem_singleton.1 hx]; exact ((p3_all ha hb hc).mono hH91.kw).at h0 ‹_›⟩ : ShpV (Kw _) ⟨false, subV v42 67 k.toNat (k + 1).toNat, [(a.facs ++ b.facs ++ c.facs).getD k.toNat fac0]⟩)) (run_call2 Tryd.call8 rfl rfl) ?_
            intro w95 hH96
            refine AN.take 12 rfl rfl (by kernel_rfl) (by kernel_rfl) (by kernel_rfl) (hH96.sub (.cons_cons _ (.cons_cons _ (.cons_cons _ (.cons_cons _ (.cons_cons _ (List.sublist_append_of_sublist_right (List.Sublist.refl _)))))))) (fun w hS => run_not (bR (c := true) ((by rw [psh93]; exact sameS_refl _)))) ?_
            refine AN.done (by kernel_rfl) ?_
            refine CW.condF rfl ?_
            refine CW.skip ?_
            refine CW.region ?_
            refine RL.val rfl (run_move e8_61) ?_
            refine RL.val rfl (run_add rfl rfl (by omega)) ?_
            refine RL.val rfl (run_assign (v := I _) rfl) ?_
            refine RL.nil ?_
            refine ⟨(k + 1, (Z89 ++ Z)), ?_, (((((((((((((((((((fr61.u rfl).u rfl).u rfl).u rfl).u rfl).u rfl).u rfl).u rfl).u rfl).u rfl).u rfl).u rfl).u rfl).u rfl).u rfl).u rfl).u rfl).u rfl).u rfl).u rfl, hH96, (congrArg I (by first | rfl | omega)), ?_, ?_⟩
            · ((try dsimp only); omega)
            · omega
            · omega
        · refine CW.exit (id := 0) rfl ?_
          refine CW.seq ?_
          refine CW.region ?_
          refine RL.callP rfl hH61 (c_clearancelaw07_alive   _ (hT.hp hH61)) (run_call0 Tryd.call7) ?_
          intro w98 hH99
          refine RL.val rfl (run_assign (v := B _) rfl) ?_
          refine RL.nil ?_
          refine CW.ret ?_
          refine outP1 Tryd.results3 (congrArg B ?_) hH99.below
          rfl

end Go.Proofs.YtgmdjomdmfcpnaaDoor.W
