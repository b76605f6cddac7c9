/-
  The walks of the functions that the laws of this seat reach, part 4: each returns what its plain counterpart tells, and turns nothing that was there.
-/
import Derived.Test.YtgmdjomdmfcpnaaGreatDoorProg
import Derived.Test.YtgmdjomdmfcpnaaGreatDoorEnv
import Derived.Test.YtgmdjomdmfcpnaaGreatDoorPlain
import Derived.Test.YtgmdjomdmfcpnaaGreatDoorBase
import Derived.Test.YtgmdjomdmfcpnaaGreatDoorOrd
import Derived.Test.YtgmdjomdmfcpnaaGreatDoorRel
import Derived.Test.YtgmdjomdmfcpnaaGreatDoorClo
import Derived.Test.YtgmdjomdmfcpnaaGreatDoorCov
import Derived.Test.YtgmdjomdmfcpnaaGreatDoorArr
import Derived.Test.YtgmdjomdmfcpnaaGreatDoorHas
import Derived.Test.YtgmdjomdmfcpnaaGreatDoorGrd
import Derived.Test.YtgmdjomdmfcpnaaGreatDoorStr
import Derived.Test.YtgmdjomdmfcpnaaGreatDoorVu
import Derived.Test.YtgmdjomdmfcpnaaGreatDoorShp
import Derived.Test.YtgmdjomdmfcpnaaGreatDoorShl
import Derived.Test.YtgmdjomdmfcpnaaGreatDoorShq
import Derived.Test.YtgmdjomdmfcpnaaGreatDoorShr
import Derived.Test.YtgmdjomdmfcpnaaGreatDoorPacesC
namespace Go.Proofs.YtgmdjomdmfcpnaaGreatDoor.W
open Go Go.RowKit Go.Proofs.YtgmdjomdmfcpnaaGreatDoor.E Go.Proofs.YtgmdjomdmfcpnaaGreatDoor.M
set_option linter.unusedVariables false
set_option linter.unusedSimpArgs false
set_option maxRecDepth 100000

theorem c_clearanceref07_End (s : Shp) (t : Bool) (w : World) (hs : ShpV (Kw w) s) : Calls Tryz.prog 12 #[.agg (shpC s), B t] w (Pure (.agg (elC (eachS s.sh (endF t)))) w) := by
  have hsl := sh_len s
  have hm := hs.facs.sl.small
  unfold maxLen at hm
  refine enter Tryz.func12 rfl Tryz.ntmps12 rfl ?_
  have hH := Hp.start w
  refine CW.seq ?_
  refine CW.region ?_
  refine RL.new rfl hH (f := fun b => (.pointer (some ⟨b, 0, none⟩))) (run_box (v := .agg _) rfl) ?_
  intro b4 w2 hH3
  refine RL.new rfl hH3 (f := fun b => (.pointer (some ⟨b, 0, none⟩))) (run_alloc zero_el) ?_
  intro b7 w5 hH6
  refine RL.nil ?_
  refine CW.seq ?_
  refine CW.region ?_
  refine RL.new rfl hH6 (f := fun b => (.pointer (some ⟨b, 0, none⟩))) (run_alloc zero_el) ?_
  intro b10 w8 hH9
  refine RL.nil ?_
  refine CW.seq ?_
  refine CW.seq ?_
  refine CW.region ?_
  refine RL.val rfl (run_assign (v := I 0) rfl) ?_
  refine RL.nil ?_
  refine CW.block ?_
  refine CW.loop (G := (Int) × (El)) (fun (⟨k, e1⟩ : (Int) × (El)) s' w' => (Fr [6, 7, 8, 9, 10, 11, 12, 13, 14, 15, 16, 17, 18, 19, 20, 21, 22, 23, 24, 25, 26, 27, 28, 29, 30, 31, 32, 33, 34, 35, 36, 37, 38, 39, 40, 41, 42, 43, 44, 45, 46, 47, 48, 49, 50, 51, 52, 53, 54, 55, 56, 57, 58, 59, 60, 61, 62, 63, 64, 65, 66, 67, 68, 69, 70, 71, 72] _ s') ∧ (Hp w w' (.blk b10 (.cells (elC e1) 30 (0, 0)) :: _)) ∧ (s' 6 = I k) ∧ (0 ≤ k) ∧ (shR s.sh = true → k ≤ s.facs.length) ∧ (shR s.sh = true → e1 = mixE (eachS s.sh (endF t)) el0 k) ∧ (shR s.sh = false → e1 = el0)) (fun (⟨k, e1⟩ : (Int) × (El)) => (9 - k).toNat) ((0, el0)) ⟨Fr.refl _ _, hH9, rfl, (by omega), (fun h => by omega), (fun _ => (mix_zero _ _).symm), fun _ => rfl⟩ ?_
  rintro ⟨k, e1⟩ sg11 w11 ⟨fr11, hH11, e6_11, h0, hk, hr, hz⟩
  have e1_11 : sg11 1 = B _ := (fr11 1 rfl).trans rfl
  have e2_11 : sg11 2 = .pointer (some ⟨_, _, none⟩) := (fr11 2 rfl).trans rfl
  have e4_11 : sg11 4 = .pointer (some ⟨_, _, none⟩) := (fr11 4 rfl).trans rfl
  have e5_11 : sg11 5 = .pointer (some ⟨_, _, none⟩) := (fr11 5 rfl).trans rfl
  refine CW.seq ?_
  refine CW.seq ?_
  refine CW.region ?_
  refine RL.val rfl (run_ldA (cs := [B _, _]) Tryz.underlying24 rfl rfl e2_11 (rangeAt_cells (hH11.blk (i := 2) rfl))) ?_
  refine RL.callP rfl hH11 (c_clearanceref07_Right _  _ (hs.mono hH11.kw)) (run_call1 Tryz.call8 rfl) ?_
  intro w12 hH13
  refine RL.val rfl (run_move (v := B _) rfl) ?_
  refine RL.split (dj := 13) rfl (fun h15 => ?_) (fun h15 => ?_)
  · refine RL.gT rfl (bR (c := true) h15) ?_
    refine RL.val rfl (run_move e6_11) ?_
    refine RL.gT rfl (bR (c := true) h15) ?_
    refine RL.val rfl (run_fieldAddr Tryz.underlying24 rfl (off := 1) rfl Tryz.sizeOf22 (by decide) e2_11) ?_
    refine RL.gT rfl (bR (c := true) h15) ?_
    refine RL.val rfl (run_ld Tryz.underlying22 rfl rfl (hH13.cell (i := 2) rfl rfl)) ?_
    refine RL.gT rfl (bR (c := true) h15) ?_
    refine RL.val rfl (run_lenSl (hs.facs.sl.hp hH13) rfl Tryz.underlying22 rfl) ?_
    refine RL.gT rfl (bR (c := true) h15) ?_
    refine RL.val rfl (run_lss rfl rfl) ?_
    refine RL.val rfl (run_pickT (bR (c := true) h15) (v := B _) rfl) ?_
    refine RL.nil ?_
    refine CW.condP rfl (fun h17 => ?_) (fun h17 => ?_)
    · refine CW.skip ?_
      refine CW.seq ?_
      refine CW.block ?_
      refine CW.seq ?_
      refine CW.region ?_
      refine RL.val rfl (run_fieldAddr Tryz.underlying24 rfl (off := 1) rfl Tryz.sizeOf22 (by decide) e2_11) ?_
      refine RL.val rfl (run_ld Tryz.underlying22 rfl rfl (hH13.cell (i := 2) rfl rfl)) ?_
      refine RL.val rfl (run_move e6_11) ?_
      refine RL.val rfl (run_indexAddrS (hs.facs.sl.hp hH13) Tryz.underlying22 Tryz.sizeOf44 rfl rfl (by first | omega | (have hln := (sh_spec ‹shR s.sh = true›).1; omega))) ?_
      refine RL.val rfl (run_ldE (dv := fac0) facL_len (hs.facs.sl.hp hH13) Tryz.underlying44 rfl rfl rfl (by first | omega | (have hln := (sh_spec ‹shR s.sh = true›).1; omega))) ?_
      refine RL.new rfl hH13 (f := fun b => (.pointer (some ⟨b, 0, none⟩))) (run_alloc zero_fac) ?_
      intro b20 w18 hH19
      refine RL.set hH19 (i := 0) rfl (run_stFac (hs.at (by first | omega | (have hln := (sh_spec ‹shR s.sh = true›).1; omega)) (by first | omega | (have hln := (sh_spec ‹shR s.sh = true›).1; omega))) rfl rfl rfl (hH19.blk (i := 0) rfl)) ?_
      intro w21 hH22
      simp only [List.set_cons_zero, List.set_cons_succ] at hH22
      refine RL.nil ?_
      refine CW.seq ?_
      refine CW.region ?_
      refine RL.val rfl (run_fieldAddr Tryz.underlying44 rfl (off := 1) rfl Tryz.sizeOf39 (by decide) rfl) ?_
      refine RL.val rfl (run_ld Tryz.underlying39 rfl rfl (hH22.cell (i := 0) rfl rfl)) ?_
      refine RL.val rfl (run_lenSl ((hs.at (by first | omega | (have hln := (sh_spec ‹shR s.sh = true›).1; omega)) (by first | omega | (have hln := (sh_spec ‹shR s.sh = true›).1; omega))).names.sl.hp hH22) rfl Tryz.underlying39 rfl) ?_
      refine RL.val rfl (run_assign (v := I _) rfl) ?_
      refine RL.nil ?_
      refine CW.seq ?_
      refine CW.region ?_
      refine RL.val rfl (run_fieldAddr Tryz.underlying44 rfl (off := 0) rfl Tryz.sizeOf3 (by decide) rfl) ?_
      refine RL.val rfl (run_ld Tryz.underlying3 rfl rfl (hH22.cell (i := 0) rfl (v := I _) rfl)) ?_
      refine RL.val rfl (run_eql rfl rfl) ?_
      refine RL.nil ?_
      refine CW.condP rfl (fun h24 => ?_) (fun h24 => ?_)
      · refine CW.seq ?_
        refine CW.region ?_
        refine RL.val rfl (run_fieldAddr Tryz.underlying44 rfl (off := 2) rfl Tryz.sizeOf42 (by decide) rfl) ?_
        refine RL.val rfl (run_ldBR Tryz.underlying42 rfl rfl rfl (hH22.blk (i := 0) rfl)) ?_
        refine RL.val rfl (run_move e1_11) ?_
        refine RL.callP rfl hH22 (c_clearanceref06_End _ _  _) (run_call2 Tryz.call33 rfl rfl) ?_
        intro w25 hH26
        refine RL.val rfl (run_move (by conv => lhs; whnf)) ?_
        refine RL.val rfl (run_extract rfl (v := I _) rfl) ?_
        refine RL.val rfl (run_extract rfl (v := B _) rfl) ?_
        refine RL.val rfl (run_assign (v := I _) rfl) ?_
        refine RL.val rfl (run_assign (v := B _) rfl) ?_
        refine RL.nil ?_
        refine CW.region ?_
        refine RL.val rfl (run_move e6_11) ?_
        refine RL.val rfl (run_fieldAddr Tryz.underlying44 rfl (off := 2) rfl Tryz.sizeOf42 (by decide) rfl) ?_
        refine RL.val rfl (run_ldBR Tryz.underlying42 rfl rfl rfl (hH26.blk (i := 0) rfl)) ?_
        refine RL.val rfl (run_move (v := I _) rfl) ?_
        refine RL.callP rfl hH26 (c_clearanceref06_Word _ _  _) (run_call2 Tryz.call34 rfl rfl) ?_
        intro w28 hH29
        refine RL.val rfl (run_indexAddrA Tryz.underlying30 Tryz.sizeOf28 e5_11 rfl (by first | omega | (have hln := (sh_spec ‹shR s.sh = true›).1; omega))) ?_
        refine RL.set hH29 (i := 1) rfl (run_st rfl rfl (v := U _) rfl rfl rfl (hH29.blk (i := 1) rfl) (by rw [elC_size]; have hln := (sh_spec ‹shR s.sh = true›).1; omega)) ?_
        intro w30 hH31
        simp only [List.set_cons_zero, List.set_cons_succ] at hH31
        rw [elC_put] at hH31
        refine RL.nil ?_
        refine CW.region ?_
        refine RL.val rfl (run_move e6_11) ?_
        refine RL.val rfl (run_add rfl rfl (by have hfat := sh_at ‹shR s.sh = true› h0 (show k < s.sh.facs.length by omega); rw [sh_get] at hfat; have := (fac_spec hfat).1; have : (s.facs.getD k.toNat fac0).fc.names = (s.facs.getD k.toNat fac0).names := rfl; first | omega | (simp only [Fac.fc] at *; omega))) ?_
        refine RL.val rfl (run_assign (v := I _) rfl) ?_
        refine RL.nil ?_
        refine ⟨(k + 1, _), ?_, (((((((((((((((((((((((((((((((((((((((fr11.u rfl).u rfl).u rfl).u rfl).u rfl).u rfl).u rfl).u rfl).u rfl).u rfl).u rfl).u rfl).u rfl).u rfl).u rfl).u rfl).u rfl).u rfl).u rfl).u rfl).u rfl).u rfl).u rfl).u rfl).u rfl).u rfl).u rfl).u rfl).u rfl).u rfl).u rfl).u rfl).u rfl).u rfl).u rfl).u rfl).u rfl).u rfl).u rfl).u rfl, (hH31.sub (.cons _ (List.Sublist.refl _))), (congrArg I (by first | rfl | omega)), ?_, ?_, ?_, ?_⟩
        · have hln := (sh_spec ‹shR s.sh = true›).1; ((try dsimp only); omega)
        · omega
        · exact fun h => by omega
        · exact fun _ => by first | (have hp := each_put (f := endF t) ‹shR s.sh = true› (hr ‹_›) h0 (show k < s.sh.facs.length by omega); rw [sh_get, ← end_4 (t := t) (show (s.facs.getD k.toNat fac0).kind = 4 from ‹_›)] at hp; exact hp) | (have hp := each_put (f := endF t) ‹shR s.sh = true› (hr ‹_›) h0 (show k < s.sh.facs.length by omega); rw [sh_get, ← end_3 ‹t = true› (show (s.facs.getD k.toNat fac0).kind = 3 from ‹_›)] at hp; exact hp) | (have hp := each_put (f := endF t) ‹shR s.sh = true› (hr ‹_›) h0 (show k < s.sh.facs.length by omega); rw [sh_get, ← end_2 ‹t = true› (show (s.facs.getD k.toNat fac0).kind = 2 from ‹_›)] at hp; exact hp) | (have hp := each_put (f := endF t) ‹shR s.sh = true› (hr ‹_›) h0 (show k < s.sh.facs.length by omega); rw [sh_get, ← end_1 (by have hat := sh_at ‹shR s.sh = true› (k := k) h0 (by omega); rw [sh_get] at hat; exact hat) ‹t = true› (show ¬ (s.facs.getD k.toNat fac0).kind = 2 from ‹_›) (show ¬ (s.facs.getD k.toNat fac0).kind = 3 from ‹_›) (show ¬ (s.facs.getD k.toNat fac0).kind = 4 from ‹_›)] at hp; exact hp) | exact each_skip ‹shR s.sh = true› (hr ‹_›) h0 (show k < s.sh.facs.length by omega) (by rw [sh_get]; exact end_0 ‹_› (show ¬ (s.facs.getD k.toNat fac0).kind = 4 from ‹_›))
        · exact fun h => by rw [‹shR s.sh = true›] at h; cases h
      · refine CW.seq ?_
        refine CW.region ?_
        refine RL.val rfl (run_move e1_11) ?_
        refine RL.val rfl (run_move (v := B _) rfl) ?_
        refine RL.split (dj := 47) rfl (fun h32 => ?_) (fun h32 => ?_)
        · refine RL.gT rfl (bR (c := true) h32) ?_
          refine RL.val rfl (run_fieldAddr Tryz.underlying44 rfl (off := 0) rfl Tryz.sizeOf3 (by decide) rfl) ?_
          refine RL.gT rfl (bR (c := true) h32) ?_
          refine RL.val rfl (run_ld Tryz.underlying3 rfl rfl (hH22.cell (i := 0) rfl (v := I _) rfl)) ?_
          refine RL.gT rfl (bR (c := true) h32) ?_
          refine RL.val rfl (run_eql rfl rfl) ?_
          refine RL.val rfl (run_pickT (bR (c := true) h32) (v := B _) rfl) ?_
          refine RL.nil ?_
          refine CW.condP rfl (fun h34 => ?_) (fun h34 => ?_)
          · refine CW.region ?_
            refine RL.val rfl (run_move e6_11) ?_
            refine RL.val rfl (run_fieldAddr Tryz.underlying44 rfl (off := 2) rfl Tryz.sizeOf42 (by decide) rfl) ?_
            refine RL.val rfl (run_ldBR Tryz.underlying42 rfl rfl rfl (hH22.blk (i := 0) rfl)) ?_
            refine RL.callP rfl hH22 (c_clearanceref05_Top _  _) (run_call1 Tryz.call35 rfl) ?_
            intro w35 hH36
            refine RL.val rfl (run_indexAddrA Tryz.underlying30 Tryz.sizeOf28 e5_11 rfl (by first | omega | (have hln := (sh_spec ‹shR s.sh = true›).1; omega))) ?_
            refine RL.set hH36 (i := 1) rfl (run_st rfl rfl (v := U _) rfl rfl rfl (hH36.blk (i := 1) rfl) (by rw [elC_size]; have hln := (sh_spec ‹shR s.sh = true›).1; omega)) ?_
            intro w37 hH38
            simp only [List.set_cons_zero, List.set_cons_succ] at hH38
            rw [elC_put] at hH38
            refine RL.nil ?_
            refine CW.region ?_
            refine RL.val rfl (run_move e6_11) ?_
            refine RL.val rfl (run_add rfl rfl (by have hfat := sh_at ‹shR s.sh = true› h0 (show k < s.sh.facs.length by omega); rw [sh_get] at hfat; have := (fac_spec hfat).1; have : (s.facs.getD k.toNat fac0).fc.names = (s.facs.getD k.toNat fac0).names := rfl; first | omega | (simp only [Fac.fc] at *; omega))) ?_
            refine RL.val rfl (run_assign (v := I _) rfl) ?_
            refine RL.nil ?_
            refine ⟨(k + 1, _), ?_, (((((((((((((((((((((((((((((((((((fr11.u rfl).u rfl).u rfl).u rfl).u rfl).u rfl).u rfl).u rfl).u rfl).u rfl).u rfl).u rfl).u rfl).u rfl).u rfl).u rfl).u rfl).u rfl).u rfl).u rfl).u rfl).u rfl).u rfl).u rfl).u rfl).u rfl).u rfl).u rfl).u rfl).u rfl).u rfl).u rfl).u rfl).u rfl).u rfl).u rfl, (hH38.sub (.cons _ (List.Sublist.refl _))), (congrArg I (by first | rfl | omega)), ?_, ?_, ?_, ?_⟩
            · have hln := (sh_spec ‹shR s.sh = true›).1; ((try dsimp only); omega)
            · omega
            · exact fun h => by omega
            · exact fun _ => by first | (have hp := each_put (f := endF t) ‹shR s.sh = true› (hr ‹_›) h0 (show k < s.sh.facs.length by omega); rw [sh_get, ← end_4 (t := t) (show (s.facs.getD k.toNat fac0).kind = 4 from ‹_›)] at hp; exact hp) | (have hp := each_put (f := endF t) ‹shR s.sh = true› (hr ‹_›) h0 (show k < s.sh.facs.length by omega); rw [sh_get, ← end_3 ‹t = true› (show (s.facs.getD k.toNat fac0).kind = 3 from ‹_›)] at hp; exact hp) | (have hp := each_put (f := endF t) ‹shR s.sh = true› (hr ‹_›) h0 (show k < s.sh.facs.length by omega); rw [sh_get, ← end_2 ‹t = true› (show (s.facs.getD k.toNat fac0).kind = 2 from ‹_›)] at hp; exact hp) | (have hp := each_put (f := endF t) ‹shR s.sh = true› (hr ‹_›) h0 (show k < s.sh.facs.length by omega); rw [sh_get, ← end_1 (by have hat := sh_at ‹shR s.sh = true› (k := k) h0 (by omega); rw [sh_get] at hat; exact hat) ‹t = true› (show ¬ (s.facs.getD k.toNat fac0).kind = 2 from ‹_›) (show ¬ (s.facs.getD k.toNat fac0).kind = 3 from ‹_›) (show ¬ (s.facs.getD k.toNat fac0).kind = 4 from ‹_›)] at hp; exact hp) | exact each_skip ‹shR s.sh = true› (hr ‹_›) h0 (show k < s.sh.facs.length by omega) (by rw [sh_get]; exact end_0 ‹_› (show ¬ (s.facs.getD k.toNat fac0).kind = 4 from ‹_›))
            · exact fun h => by rw [‹shR s.sh = true›] at h; cases h
          · refine CW.seq ?_
            refine CW.region ?_
            refine RL.val rfl (run_move e1_11) ?_
            refine RL.val rfl (run_move (v := B _) rfl) ?_
            refine RL.gT rfl (bR (c := true) h32) ?_
            refine RL.val rfl (run_fieldAddr Tryz.underlying44 rfl (off := 0) rfl Tryz.sizeOf3 (by decide) rfl) ?_
            refine RL.gT rfl (bR (c := true) h32) ?_
            refine RL.val rfl (run_ld Tryz.underlying3 rfl rfl (hH22.cell (i := 0) rfl (v := I _) rfl)) ?_
            refine RL.gT rfl (bR (c := true) h32) ?_
            refine RL.val rfl (run_eql rfl rfl) ?_
            refine RL.val rfl (run_pickT (bR (c := true) h32) (v := B _) rfl) ?_
            refine RL.nil ?_
            refine CW.condP rfl (fun h40 => ?_) (fun h40 => ?_)
            · refine CW.region ?_
              refine RL.val rfl (run_move e6_11) ?_
              refine RL.val rfl (run_move (v := I _) rfl) ?_
              refine RL.callP rfl hH22 (c_clearanceref01_Below _  _) (run_call1 Tryz.call36 rfl) ?_
              intro w41 hH42
              refine RL.val rfl (run_indexAddrA Tryz.underlying30 Tryz.sizeOf28 e5_11 rfl (by first | omega | (have hln := (sh_spec ‹shR s.sh = true›).1; omega))) ?_
              refine RL.set hH42 (i := 1) rfl (run_st rfl rfl (v := U _) rfl rfl rfl (hH42.blk (i := 1) rfl) (by rw [elC_size]; have hln := (sh_spec ‹shR s.sh = true›).1; omega)) ?_
              intro w43 hH44
              simp only [List.set_cons_zero, List.set_cons_succ] at hH44
              rw [elC_put] at hH44
              refine RL.nil ?_
              refine CW.region ?_
              refine RL.val rfl (run_move e6_11) ?_
              refine RL.val rfl (run_add rfl rfl (by have hfat := sh_at ‹shR s.sh = true› h0 (show k < s.sh.facs.length by omega); rw [sh_get] at hfat; have := (fac_spec hfat).1; have : (s.facs.getD k.toNat fac0).fc.names = (s.facs.getD k.toNat fac0).names := rfl; first | omega | (simp only [Fac.fc] at *; omega))) ?_
              refine RL.val rfl (run_assign (v := I _) rfl) ?_
              refine RL.nil ?_
              refine ⟨(k + 1, _), ?_, ((((((((((((((((((((((((((((((((((((((((fr11.u rfl).u rfl).u rfl).u rfl).u rfl).u rfl).u rfl).u rfl).u rfl).u rfl).u rfl).u rfl).u rfl).u rfl).u rfl).u rfl).u rfl).u rfl).u rfl).u rfl).u rfl).u rfl).u rfl).u rfl).u rfl).u rfl).u rfl).u rfl).u rfl).u rfl).u rfl).u rfl).u rfl).u rfl).u rfl).u rfl).u rfl).u rfl).u rfl).u rfl).u rfl, (hH44.sub (.cons _ (List.Sublist.refl _))), (congrArg I (by first | rfl | omega)), ?_, ?_, ?_, ?_⟩
              · have hln := (sh_spec ‹shR s.sh = true›).1; ((try dsimp only); omega)
              · omega
              · exact fun h => by omega
              · exact fun _ => by first | (have hp := each_put (f := endF t) ‹shR s.sh = true› (hr ‹_›) h0 (show k < s.sh.facs.length by omega); rw [sh_get, ← end_4 (t := t) (show (s.facs.getD k.toNat fac0).kind = 4 from ‹_›)] at hp; exact hp) | (have hp := each_put (f := endF t) ‹shR s.sh = true› (hr ‹_›) h0 (show k < s.sh.facs.length by omega); rw [sh_get, ← end_3 ‹t = true› (show (s.facs.getD k.toNat fac0).kind = 3 from ‹_›)] at hp; exact hp) | (have hp := each_put (f := endF t) ‹shR s.sh = true› (hr ‹_›) h0 (show k < s.sh.facs.length by omega); rw [sh_get, ← end_2 ‹t = true› (show (s.facs.getD k.toNat fac0).kind = 2 from ‹_›)] at hp; exact hp) | (have hp := each_put (f := endF t) ‹shR s.sh = true› (hr ‹_›) h0 (show k < s.sh.facs.length by omega); rw [sh_get, ← end_1 (by have hat := sh_at ‹shR s.sh = true› (k := k) h0 (by omega); rw [sh_get] at hat; exact hat) ‹t = true› (show ¬ (s.facs.getD k.toNat fac0).kind = 2 from ‹_›) (show ¬ (s.facs.getD k.toNat fac0).kind = 3 from ‹_›) (show ¬ (s.facs.getD k.toNat fac0).kind = 4 from ‹_›)] at hp; exact hp) | exact each_skip ‹shR s.sh = true› (hr ‹_›) h0 (show k < s.sh.facs.length by omega) (by rw [sh_get]; exact end_0 ‹_› (show ¬ (s.facs.getD k.toNat fac0).kind = 4 from ‹_›))
              · exact fun h => by rw [‹shR s.sh = true›] at h; cases h
            · refine CW.seq ?_
              refine CW.region ?_
              refine RL.val rfl (run_move e1_11) ?_
              refine RL.nil ?_
              refine CW.condT (bR (c := true) h32) ?_
              refine CW.region ?_
              refine RL.val rfl (run_move e6_11) ?_
              refine RL.val rfl (run_move (v := I _) rfl) ?_
              refine RL.val rfl (run_sub rfl rfl (by have hfat := sh_at ‹shR s.sh = true› h0 (show k < s.sh.facs.length by omega); rw [sh_get] at hfat; have := (fac_spec hfat).1; have : (s.facs.getD k.toNat fac0).fc.names = (s.facs.getD k.toNat fac0).names := rfl; first | omega | (simp only [Fac.fc] at *; omega))) ?_
              refine RL.callP rfl hH22 (c_clearanceref01_Below _  _) (run_call1 Tryz.call36 rfl) ?_
              intro w45 hH46
              refine RL.val rfl (run_indexAddrA Tryz.underlying30 Tryz.sizeOf28 e5_11 rfl (by first | omega | (have hln := (sh_spec ‹shR s.sh = true›).1; omega))) ?_
              refine RL.set hH46 (i := 1) rfl (run_st rfl rfl (v := U _) rfl rfl rfl (hH46.blk (i := 1) rfl) (by rw [elC_size]; have hln := (sh_spec ‹shR s.sh = true›).1; omega)) ?_
              intro w47 hH48
              simp only [List.set_cons_zero, List.set_cons_succ] at hH48
              rw [elC_put] at hH48
              refine RL.nil ?_
              refine CW.region ?_
              refine RL.val rfl (run_move e6_11) ?_
              refine RL.val rfl (run_add rfl rfl (by have hfat := sh_at ‹shR s.sh = true› h0 (show k < s.sh.facs.length by omega); rw [sh_get] at hfat; have := (fac_spec hfat).1; have : (s.facs.getD k.toNat fac0).fc.names = (s.facs.getD k.toNat fac0).names := rfl; first | omega | (simp only [Fac.fc] at *; omega))) ?_
              refine RL.val rfl (run_assign (v := I _) rfl) ?_
              refine RL.nil ?_
              refine ⟨(k + 1, _), ?_, ((((((((((((((((((((((((((((((((((((((((((fr11.u rfl).u rfl).u rfl).u rfl).u rfl).u rfl).u rfl).u rfl).u rfl).u rfl).u rfl).u rfl).u rfl).u rfl).u rfl).u rfl).u rfl).u rfl).u rfl).u rfl).u rfl).u rfl).u rfl).u rfl).u rfl).u rfl).u rfl).u rfl).u rfl).u rfl).u rfl).u rfl).u rfl).u rfl).u rfl).u rfl).u rfl).u rfl).u rfl).u rfl).u rfl).u rfl).u rfl, (hH48.sub (.cons _ (List.Sublist.refl _))), (congrArg I (by first | rfl | omega)), ?_, ?_, ?_, ?_⟩
              · have hln := (sh_spec ‹shR s.sh = true›).1; ((try dsimp only); omega)
              · omega
              · exact fun h => by omega
              · exact fun _ => by first | (have hp := each_put (f := endF t) ‹shR s.sh = true› (hr ‹_›) h0 (show k < s.sh.facs.length by omega); rw [sh_get, ← end_4 (t := t) (show (s.facs.getD k.toNat fac0).kind = 4 from ‹_›)] at hp; exact hp) | (have hp := each_put (f := endF t) ‹shR s.sh = true› (hr ‹_›) h0 (show k < s.sh.facs.length by omega); rw [sh_get, ← end_3 ‹t = true› (show (s.facs.getD k.toNat fac0).kind = 3 from ‹_›)] at hp; exact hp) | (have hp := each_put (f := endF t) ‹shR s.sh = true› (hr ‹_›) h0 (show k < s.sh.facs.length by omega); rw [sh_get, ← end_2 ‹t = true› (show (s.facs.getD k.toNat fac0).kind = 2 from ‹_›)] at hp; exact hp) | (have hp := each_put (f := endF t) ‹shR s.sh = true› (hr ‹_›) h0 (show k < s.sh.facs.length by omega); rw [sh_get, ← end_1 (by have hat := sh_at ‹shR s.sh = true› (k := k) h0 (by omega); rw [sh_get] at hat; exact hat) ‹t = true› (show ¬ (s.facs.getD k.toNat fac0).kind = 2 from ‹_›) (show ¬ (s.facs.getD k.toNat fac0).kind = 3 from ‹_›) (show ¬ (s.facs.getD k.toNat fac0).kind = 4 from ‹_›)] at hp; exact hp) | exact each_skip ‹shR s.sh = true› (hr ‹_›) h0 (show k < s.sh.facs.length by omega) (by rw [sh_get]; exact end_0 ‹_› (show ¬ (s.facs.getD k.toNat fac0).kind = 4 from ‹_›))
              · exact fun h => by rw [‹shR s.sh = true›] at h; cases h
        · refine RL.gF rfl rfl (bR (c := false) h32) rfl ?_
          refine RL.gF rfl rfl (bR (c := false) h32) rfl ?_
          refine RL.gF rfl rfl (bR (c := false) h32) rfl ?_
          refine RL.val rfl (run_pickF (bR (c := false) h32) (v := B false) rfl) ?_
          refine RL.nil ?_
          refine CW.condF rfl ?_
          refine CW.seq ?_
          refine CW.region ?_
          refine RL.val rfl (run_move e1_11) ?_
          refine RL.val rfl (run_move (v := B _) rfl) ?_
          refine RL.gF rfl rfl (bR (c := false) h32) rfl ?_
          refine RL.gF rfl rfl (bR (c := false) h32) rfl ?_
          refine RL.gF rfl rfl (bR (c := false) h32) rfl ?_
          refine RL.val rfl (run_pickF (bR (c := false) h32) (v := B false) rfl) ?_
          refine RL.nil ?_
          refine CW.condF rfl ?_
          refine CW.seq ?_
          refine CW.region ?_
          refine RL.val rfl (run_move e1_11) ?_
          refine RL.nil ?_
          refine CW.condF (bR (c := false) h32) ?_
          refine CW.skip ?_
          refine CW.region ?_
          refine RL.val rfl (run_move e6_11) ?_
          refine RL.val rfl (run_add rfl rfl (by have hfat := sh_at ‹shR s.sh = true› h0 (show k < s.sh.facs.length by omega); rw [sh_get] at hfat; have := (fac_spec hfat).1; have : (s.facs.getD k.toNat fac0).fc.names = (s.facs.getD k.toNat fac0).names := rfl; first | omega | (simp only [Fac.fc] at *; omega))) ?_
          refine RL.val rfl (run_assign (v := I _) rfl) ?_
          refine RL.nil ?_
          refine ⟨(k + 1, _), ?_, (((((((((((((((((((((((((((((((((((((fr11.u rfl).u rfl).u rfl).u rfl).u rfl).u rfl).u rfl).u rfl).u rfl).u rfl).u rfl).u rfl).u rfl).u rfl).u rfl).u rfl).u rfl).u rfl).u rfl).u rfl).u rfl).u rfl).u rfl).u rfl).u rfl).u rfl).u rfl).u rfl).u rfl).u rfl).u rfl).u rfl).u rfl).u rfl).u rfl).u rfl).u rfl).u rfl, (hH22.sub (.cons _ (List.Sublist.refl _))), (congrArg I (by first | rfl | omega)), ?_, ?_, ?_, ?_⟩
          · have hln := (sh_spec ‹shR s.sh = true›).1; ((try dsimp only); omega)
          · omega
          · exact fun h => by omega
          · exact fun _ => by first | (have hp := each_put (f := endF t) ‹shR s.sh = true› (hr ‹_›) h0 (show k < s.sh.facs.length by omega); rw [sh_get, ← end_4 (t := t) (show (s.facs.getD k.toNat fac0).kind = 4 from ‹_›)] at hp; exact hp) | (have hp := each_put (f := endF t) ‹shR s.sh = true› (hr ‹_›) h0 (show k < s.sh.facs.length by omega); rw [sh_get, ← end_3 ‹t = true› (show (s.facs.getD k.toNat fac0).kind = 3 from ‹_›)] at hp; exact hp) | (have hp := each_put (f := endF t) ‹shR s.sh = true› (hr ‹_›) h0 (show k < s.sh.facs.length by omega); rw [sh_get, ← end_2 ‹t = true› (show (s.facs.getD k.toNat fac0).kind = 2 from ‹_›)] at hp; exact hp) | (have hp := each_put (f := endF t) ‹shR s.sh = true› (hr ‹_›) h0 (show k < s.sh.facs.length by omega); rw [sh_get, ← end_1 (by have hat := sh_at ‹shR s.sh = true› (k := k) h0 (by omega); rw [sh_get] at hat; exact hat) ‹t = true› (show ¬ (s.facs.getD k.toNat fac0).kind = 2 from ‹_›) (show ¬ (s.facs.getD k.toNat fac0).kind = 3 from ‹_›) (show ¬ (s.facs.getD k.toNat fac0).kind = 4 from ‹_›)] at hp; exact hp) | exact each_skip ‹shR s.sh = true› (hr ‹_›) h0 (show k < s.sh.facs.length by omega) (by rw [sh_get]; exact end_0 ‹_› (show ¬ (s.facs.getD k.toNat fac0).kind = 4 from ‹_›))
          · exact fun h => by rw [‹shR s.sh = true›] at h; cases h
    · refine CW.exit (id := 0) rfl ?_
      refine CW.seq ?_
      refine CW.region ?_
      refine RL.val rfl (run_ldEl Tryz.underlying30 rfl rfl e5_11 (hH13.blk (i := 0) rfl)) ?_
      refine RL.set hH13 (i := 1) rfl (run_stEl rfl e4_11 rfl (hH13.blk (i := 1) rfl)) ?_
      intro w49 hH50
      simp only [List.set_cons_zero, List.set_cons_succ] at hH50
      refine RL.nil ?_
      refine CW.ret ?_
      refine outCg Tryz.results12 e4_11 hH50 (i := 1) rfl Tryz.underlying30 rfl (by rw [elC_size]; rfl) ⟨?_, hH50.below⟩
      first | exact congrArg Value.agg (elC_congr (by rw [hr ‹_›]; exact each_all (by have := hk ‹_›; omega))) | exact congrArg Value.agg (elC_congr (by rw [hz ‹_›]; exact each_no ‹_›))
  · refine RL.gF rfl rfl (bR (c := false) h15) rfl ?_
    refine RL.gF rfl rfl (bR (c := false) h15) rfl ?_
    refine RL.gF rfl rfl (bR (c := false) h15) rfl ?_
    refine RL.gF rfl rfl (bR (c := false) h15) rfl ?_
    refine RL.gF rfl rfl (bR (c := false) h15) rfl ?_
    refine RL.val rfl (run_pickF (bR (c := false) h15) (v := B false) rfl) ?_
    refine RL.nil ?_
    refine CW.condF rfl ?_
    refine CW.exit (id := 0) rfl ?_
    refine CW.seq ?_
    refine CW.region ?_
    refine RL.val rfl (run_ldEl Tryz.underlying30 rfl rfl e5_11 (hH13.blk (i := 0) rfl)) ?_
    refine RL.set hH13 (i := 1) rfl (run_stEl rfl e4_11 rfl (hH13.blk (i := 1) rfl)) ?_
    intro w51 hH52
    simp only [List.set_cons_zero, List.set_cons_succ] at hH52
    refine RL.nil ?_
    refine CW.ret ?_
    refine outCg Tryz.results12 e4_11 hH52 (i := 1) rfl Tryz.underlying30 rfl (by rw [elC_size]; rfl) ⟨?_, hH52.below⟩
    first | exact congrArg Value.agg (elC_congr (by rw [hr ‹_›]; exact each_all (by have := hk ‹_›; omega))) | exact congrArg Value.agg (elC_congr (by rw [hz ‹_›]; exact each_no ‹_›))

theorem c_clearanceref07_Height (s : Shp) (w : World) (hs : ShpV (Kw w) s) : Calls Tryz.prog 15 #[.agg (shpC s)] w (Pure (I (heightS s.sh)) w) := by
  have hsl := sh_len s
  have hm := hs.facs.sl.small
  unfold maxLen at hm
  refine enter Tryz.func15 rfl Tryz.ntmps15 rfl ?_
  have hH := Hp.start w
  refine CW.seq ?_
  refine CW.region ?_
  refine RL.new rfl hH (f := fun b => (.pointer (some ⟨b, 0, none⟩))) (run_box (v := .agg _) rfl) ?_
  intro b3 w1 hH2
  refine RL.val rfl (run_assign (v := I 0) rfl) ?_
  refine RL.nil ?_
  refine CW.seq ?_
  refine CW.region ?_
  refine RL.val rfl (run_assign (v := I 0) rfl) ?_
  refine RL.nil ?_
  refine CW.seq ?_
  refine CW.seq ?_
  refine CW.region ?_
  refine RL.val rfl (run_assign (v := I 0) rfl) ?_
  refine RL.nil ?_
  refine CW.block ?_
  refine CW.loop (G := (Int) × (Int)) (fun (⟨k, m⟩ : (Int) × (Int)) s' w' => (Fr [3, 4, 5, 6, 7, 8, 9, 10, 11, 12, 13, 14, 15, 16, 17, 18, 19, 20, 21, 22, 23, 24, 25, 26, 27, 28, 29, 30, 31, 32, 33, 34, 35, 36, 37, 38, 39, 40, 41, 42, 43, 44, 45, 46, 47, 48, 49, 50] _ s') ∧ (Hp w w' _) ∧ (s' 3 = I m) ∧ (s' 4 = I k) ∧ (0 ≤ k) ∧ (shR s.sh = true → k ≤ s.facs.length) ∧ (shR s.sh = true → m = sumTo s.sh k) ∧ (shR s.sh = false → m = 0)) (fun (⟨k, m⟩ : (Int) × (Int)) => (9 - k).toNat) ((0, 0)) ⟨Fr.refl _ _, hH2, rfl, rfl, (by omega), (fun h => by omega), (fun _ => rfl), fun _ => rfl⟩ ?_
  rintro ⟨k, m⟩ sg4 w4 ⟨fr4, hH4, e3_4, e4_4, h0, hk, hm1, hz⟩
  have e1_4 : sg4 1 = .pointer (some ⟨_, _, none⟩) := (fr4 1 rfl).trans rfl
  have e2_4 : sg4 2 = I _ := (fr4 2 rfl).trans rfl
  refine CW.seq ?_
  refine CW.seq ?_
  refine CW.region ?_
  refine RL.val rfl (run_ldA (cs := [B _, _]) Tryz.underlying24 rfl rfl e1_4 (rangeAt_cells (hH4.blk (i := 0) rfl))) ?_
  refine RL.callP rfl hH4 (c_clearanceref07_Right _  _ (hs.mono hH4.kw)) (run_call1 Tryz.call8 rfl) ?_
  intro w5 hH6
  refine RL.val rfl (run_move (v := B _) rfl) ?_
  refine RL.split (dj := 9) rfl (fun h8 => ?_) (fun h8 => ?_)
  · refine RL.gT rfl (bR (c := true) h8) ?_
    refine RL.val rfl (run_move e4_4) ?_
    refine RL.gT rfl (bR (c := true) h8) ?_
    refine RL.val rfl (run_fieldAddr Tryz.underlying24 rfl (off := 1) rfl Tryz.sizeOf22 (by decide) e1_4) ?_
    refine RL.gT rfl (bR (c := true) h8) ?_
    refine RL.val rfl (run_ld Tryz.underlying22 rfl rfl (hH6.cell (i := 0) rfl rfl)) ?_
    refine RL.gT rfl (bR (c := true) h8) ?_
    refine RL.val rfl (run_lenSl (hs.facs.sl.hp hH6) rfl Tryz.underlying22 rfl) ?_
    refine RL.gT rfl (bR (c := true) h8) ?_
    refine RL.val rfl (run_lss rfl rfl) ?_
    refine RL.val rfl (run_pickT (bR (c := true) h8) (v := B _) rfl) ?_
    refine RL.nil ?_
    refine CW.condP rfl (fun h10 => ?_) (fun h10 => ?_)
    · refine CW.skip ?_
      refine CW.seq ?_
      refine CW.block ?_
      refine CW.seq ?_
      refine CW.region ?_
      refine RL.val rfl (run_fieldAddr Tryz.underlying24 rfl (off := 1) rfl Tryz.sizeOf22 (by decide) e1_4) ?_
      refine RL.val rfl (run_ld Tryz.underlying22 rfl rfl (hH6.cell (i := 0) rfl rfl)) ?_
      refine RL.val rfl (run_move e4_4) ?_
      refine RL.val rfl (run_indexAddrS (hs.facs.sl.hp hH6) Tryz.underlying22 Tryz.sizeOf44 rfl rfl (by omega)) ?_
      refine RL.val rfl (run_ldE (dv := fac0) facL_len (hs.facs.sl.hp hH6) Tryz.underlying44 rfl rfl rfl (by omega)) ?_
      refine RL.new rfl hH6 (f := fun b => (.pointer (some ⟨b, 0, none⟩))) (run_alloc zero_fac) ?_
      intro b13 w11 hH12
      refine RL.set hH12 (i := 0) rfl (run_stFac (hs.at (by omega) (by omega)) rfl rfl rfl (hH12.blk (i := 0) rfl)) ?_
      intro w14 hH15
      simp only [List.set_cons_zero, List.set_cons_succ] at hH15
      refine RL.nil ?_
      refine CW.seq ?_
      refine CW.region ?_
      refine RL.val rfl (run_fieldAddr Tryz.underlying44 rfl (off := 1) rfl Tryz.sizeOf39 (by decide) rfl) ?_
      refine RL.val rfl (run_ld Tryz.underlying39 rfl rfl (hH15.cell (i := 0) rfl rfl)) ?_
      refine RL.val rfl (run_lenSl ((hs.at (by omega) (by omega)).names.sl.hp hH15) rfl Tryz.underlying39 rfl) ?_
      refine RL.val rfl (run_sub rfl rfl (by first | omega | (have hsb := sum_bdI ‹shR s.sh = true› h0 (show k ≤ s.sh.facs.length by omega); have hm2 := hm1 ‹_›; have hat := sh_at ‹shR s.sh = true› h0 (show k < s.sh.facs.length by omega); rw [sh_get] at hat; have hhb := high_bd hat; have hnb : 1 ≤ (s.facs.getD k.toNat fac0).names.length ∧ (s.facs.getD k.toNat fac0).names.length ≤ 64 := (fac_spec hat).1; first | omega | (have e : heightG (s.facs.getD k.toNat fac0).rel = highF (s.facs.getD k.toNat fac0).fc := high_3 (f := (s.facs.getD k.toNat fac0).fc) (show (s.facs.getD k.toNat fac0).kind = 3 from ‹_›); omega) | (have e : (longV (s.facs.getD k.toNat fac0).rel).1 = highF (s.facs.getD k.toNat fac0).fc := high_4 (f := (s.facs.getD k.toNat fac0).fc) (show (s.facs.getD k.toNat fac0).kind = 4 from ‹_›); omega)))) ?_
      refine RL.val rfl (run_assign (v := I _) rfl) ?_
      refine RL.nil ?_
      refine CW.seq ?_
      refine CW.seq ?_
      refine CW.region ?_
      refine RL.val rfl (run_fieldAddr Tryz.underlying44 rfl (off := 0) rfl Tryz.sizeOf3 (by decide) rfl) ?_
      refine RL.val rfl (run_ld Tryz.underlying3 rfl rfl (hH15.cell (i := 0) rfl (v := I _) rfl)) ?_
      refine RL.val rfl (run_eql rfl rfl) ?_
      refine RL.nil ?_
      refine CW.condP rfl (fun h17 => ?_) (fun h17 => ?_)
      · refine CW.region ?_
        refine RL.val rfl (run_fieldAddr Tryz.underlying44 rfl (off := 1) rfl Tryz.sizeOf39 (by decide) rfl) ?_
        refine RL.val rfl (run_ld Tryz.underlying39 rfl rfl (hH15.cell (i := 0) rfl rfl)) ?_
        refine RL.val rfl (run_lenSl ((hs.at (by omega) (by omega)).names.sl.hp hH15) rfl Tryz.underlying39 rfl) ?_
        refine RL.val rfl (run_assign (v := I _) rfl) ?_
        refine RL.nil ?_
        refine CW.seq ?_
        refine CW.seq ?_
        refine CW.region ?_
        refine RL.val rfl (run_fieldAddr Tryz.underlying44 rfl (off := 0) rfl Tryz.sizeOf3 (by decide) rfl) ?_
        refine RL.val rfl (run_ld Tryz.underlying3 rfl rfl (hH15.cell (i := 0) rfl (v := I _) rfl)) ?_
        refine RL.val rfl (run_eql rfl rfl) ?_
        refine RL.nil ?_
        refine CW.condP rfl (fun h19 => ?_) (fun h19 => ?_)
        · refine CW.region ?_
          refine RL.val rfl (run_fieldAddr Tryz.underlying44 rfl (off := 2) rfl Tryz.sizeOf42 (by decide) rfl) ?_
          refine RL.val rfl (run_ldBR Tryz.underlying42 rfl rfl rfl (hH15.blk (i := 0) rfl)) ?_
          refine RL.callP rfl hH15 (c_clearanceref05_Height _  _) (run_call1 Tryz.call39 rfl) ?_
          intro w20 hH21
          refine RL.val rfl (run_assign (v := I _) rfl) ?_
          refine RL.nil ?_
          refine CW.seq ?_
          refine CW.seq ?_
          refine CW.region ?_
          refine RL.val rfl (run_fieldAddr Tryz.underlying44 rfl (off := 0) rfl Tryz.sizeOf3 (by decide) rfl) ?_
          refine RL.val rfl (run_ld Tryz.underlying3 rfl rfl (hH21.cell (i := 0) rfl (v := I _) rfl)) ?_
          refine RL.val rfl (run_eql rfl rfl) ?_
          refine RL.nil ?_
          refine CW.condP rfl (fun h23 => ?_) (fun h23 => ?_)
          · refine CW.region ?_
            refine RL.val rfl (run_fieldAddr Tryz.underlying44 rfl (off := 2) rfl Tryz.sizeOf42 (by decide) rfl) ?_
            refine RL.val rfl (run_ldBR Tryz.underlying42 rfl rfl rfl (hH21.blk (i := 0) rfl)) ?_
            refine RL.callP rfl hH21 (c_clearanceref03_Long _  _) (run_call1 Tryz.call40 rfl) ?_
            intro w24 hH25
            refine RL.val rfl (run_move (by conv => lhs; whnf)) ?_
            refine RL.val rfl (run_extract rfl (v := I _) rfl) ?_
            refine RL.val rfl (run_extract rfl (v := B _) rfl) ?_
            refine RL.val rfl (run_assign (v := I _) rfl) ?_
            refine RL.nil ?_
            refine CW.region ?_
            refine RL.val rfl (run_move e3_4) ?_
            refine RL.val rfl (run_move (v := I _) rfl) ?_
            refine RL.val rfl (run_add rfl rfl (by first | omega | (have hsb := sum_bdI ‹shR s.sh = true› h0 (show k ≤ s.sh.facs.length by omega); have hm2 := hm1 ‹_›; have hat := sh_at ‹shR s.sh = true› h0 (show k < s.sh.facs.length by omega); rw [sh_get] at hat; have hhb := high_bd hat; have hnb : 1 ≤ (s.facs.getD k.toNat fac0).names.length ∧ (s.facs.getD k.toNat fac0).names.length ≤ 64 := (fac_spec hat).1; first | omega | (have e : heightG (s.facs.getD k.toNat fac0).rel = highF (s.facs.getD k.toNat fac0).fc := high_3 (f := (s.facs.getD k.toNat fac0).fc) (show (s.facs.getD k.toNat fac0).kind = 3 from ‹_›); omega) | (have e : (longV (s.facs.getD k.toNat fac0).rel).1 = highF (s.facs.getD k.toNat fac0).fc := high_4 (f := (s.facs.getD k.toNat fac0).fc) (show (s.facs.getD k.toNat fac0).kind = 4 from ‹_›); omega)))) ?_
            refine RL.val rfl (run_assign (v := I _) rfl) ?_
            refine RL.nil ?_
            refine CW.region ?_
            refine RL.val rfl (run_move e4_4) ?_
            refine RL.val rfl (run_add rfl rfl (by first | omega | (have hsb := sum_bdI ‹shR s.sh = true› h0 (show k ≤ s.sh.facs.length by omega); have hm2 := hm1 ‹_›; have hat := sh_at ‹shR s.sh = true› h0 (show k < s.sh.facs.length by omega); rw [sh_get] at hat; have hhb := high_bd hat; have hnb : 1 ≤ (s.facs.getD k.toNat fac0).names.length ∧ (s.facs.getD k.toNat fac0).names.length ≤ 64 := (fac_spec hat).1; first | omega | (have e : heightG (s.facs.getD k.toNat fac0).rel = highF (s.facs.getD k.toNat fac0).fc := high_3 (f := (s.facs.getD k.toNat fac0).fc) (show (s.facs.getD k.toNat fac0).kind = 3 from ‹_›); omega) | (have e : (longV (s.facs.getD k.toNat fac0).rel).1 = highF (s.facs.getD k.toNat fac0).fc := high_4 (f := (s.facs.getD k.toNat fac0).fc) (show (s.facs.getD k.toNat fac0).kind = 4 from ‹_›); omega)))) ?_
            refine RL.val rfl (run_assign (v := I _) rfl) ?_
            refine RL.nil ?_
            refine ⟨(k + 1, _), ?_, ((((((((((((((((((((((((((((((((((((((((((((((((((fr4.u rfl).u rfl).u rfl).u rfl).u rfl).u rfl).u rfl).u rfl).u rfl).u rfl).u rfl).u rfl).u rfl).u rfl).u rfl).u rfl).u rfl).u rfl).u rfl).u rfl).u rfl).u rfl).u rfl).u rfl).u rfl).u rfl).u rfl).u rfl).u rfl).u rfl).u rfl).u rfl).u rfl).u rfl).u rfl).u rfl).u rfl).u rfl).u rfl).u rfl).u rfl).u rfl).u rfl).u rfl).u rfl).u rfl).u rfl).u rfl).u rfl).u rfl).u rfl, (hH25.sub (.cons _ (List.Sublist.refl _))), (congrArg I (by first | rfl | omega)), (congrArg I (by first | rfl | omega)), ?_, ?_, ?_, ?_⟩
            · have hln := (sh_spec ‹shR s.sh = true›).1; ((try dsimp only); omega)
            · omega
            · exact fun h => by omega
            · exact fun _ => by rw [hm1 ‹_›, ← sum_next h0, sh_get]; first | (exfalso; omega) | (have e : ((s.facs.getD k.toNat fac0).names.length : Int) = highF (s.facs.getD k.toNat fac0).fc := high_2 (f := (s.facs.getD k.toNat fac0).fc) (show (s.facs.getD k.toNat fac0).kind = 2 from ‹_›); omega) | (have e : heightG (s.facs.getD k.toNat fac0).rel = highF (s.facs.getD k.toNat fac0).fc := high_3 (f := (s.facs.getD k.toNat fac0).fc) (show (s.facs.getD k.toNat fac0).kind = 3 from ‹_›); omega) | (have e : (longV (s.facs.getD k.toNat fac0).rel).1 = highF (s.facs.getD k.toNat fac0).fc := high_4 (f := (s.facs.getD k.toNat fac0).fc) (show (s.facs.getD k.toNat fac0).kind = 4 from ‹_›); omega) | (have e : ((s.facs.getD k.toNat fac0).names.length : Int) - 1 = highF (s.facs.getD k.toNat fac0).fc := high_1 (f := (s.facs.getD k.toNat fac0).fc) (by have hat := sh_at ‹shR s.sh = true› (k := k) h0 (by omega); rw [sh_get] at hat; exact hat) (show ¬ (s.facs.getD k.toNat fac0).kind = 2 from ‹_›) (show ¬ (s.facs.getD k.toNat fac0).kind = 3 from ‹_›) (show ¬ (s.facs.getD k.toNat fac0).kind = 4 from ‹_›); omega)
            · exact fun h => by rw [‹shR s.sh = true›] at h; cases h
          · refine CW.skip ?_
            refine CW.region ?_
            refine RL.val rfl (run_move e3_4) ?_
            refine RL.val rfl (run_move (v := I _) rfl) ?_
            refine RL.val rfl (run_add rfl rfl (by first | omega | (have hsb := sum_bdI ‹shR s.sh = true› h0 (show k ≤ s.sh.facs.length by omega); have hm2 := hm1 ‹_›; have hat := sh_at ‹shR s.sh = true› h0 (show k < s.sh.facs.length by omega); rw [sh_get] at hat; have hhb := high_bd hat; have hnb : 1 ≤ (s.facs.getD k.toNat fac0).names.length ∧ (s.facs.getD k.toNat fac0).names.length ≤ 64 := (fac_spec hat).1; first | omega | (have e : heightG (s.facs.getD k.toNat fac0).rel = highF (s.facs.getD k.toNat fac0).fc := high_3 (f := (s.facs.getD k.toNat fac0).fc) (show (s.facs.getD k.toNat fac0).kind = 3 from ‹_›); omega) | (have e : (longV (s.facs.getD k.toNat fac0).rel).1 = highF (s.facs.getD k.toNat fac0).fc := high_4 (f := (s.facs.getD k.toNat fac0).fc) (show (s.facs.getD k.toNat fac0).kind = 4 from ‹_›); omega)))) ?_
            refine RL.val rfl (run_assign (v := I _) rfl) ?_
            refine RL.nil ?_
            refine CW.region ?_
            refine RL.val rfl (run_move e4_4) ?_
            refine RL.val rfl (run_add rfl rfl (by first | omega | (have hsb := sum_bdI ‹shR s.sh = true› h0 (show k ≤ s.sh.facs.length by omega); have hm2 := hm1 ‹_›; have hat := sh_at ‹shR s.sh = true› h0 (show k < s.sh.facs.length by omega); rw [sh_get] at hat; have hhb := high_bd hat; have hnb : 1 ≤ (s.facs.getD k.toNat fac0).names.length ∧ (s.facs.getD k.toNat fac0).names.length ≤ 64 := (fac_spec hat).1; first | omega | (have e : heightG (s.facs.getD k.toNat fac0).rel = highF (s.facs.getD k.toNat fac0).fc := high_3 (f := (s.facs.getD k.toNat fac0).fc) (show (s.facs.getD k.toNat fac0).kind = 3 from ‹_›); omega) | (have e : (longV (s.facs.getD k.toNat fac0).rel).1 = highF (s.facs.getD k.toNat fac0).fc := high_4 (f := (s.facs.getD k.toNat fac0).fc) (show (s.facs.getD k.toNat fac0).kind = 4 from ‹_›); omega)))) ?_
            refine RL.val rfl (run_assign (v := I _) rfl) ?_
            refine RL.nil ?_
            refine ⟨(k + 1, _), ?_, (((((((((((((((((((((((((((((((((((((((((((fr4.u rfl).u rfl).u rfl).u rfl).u rfl).u rfl).u rfl).u rfl).u rfl).u rfl).u rfl).u rfl).u rfl).u rfl).u rfl).u rfl).u rfl).u rfl).u rfl).u rfl).u rfl).u rfl).u rfl).u rfl).u rfl).u rfl).u rfl).u rfl).u rfl).u rfl).u rfl).u rfl).u rfl).u rfl).u rfl).u rfl).u rfl).u rfl).u rfl).u rfl).u rfl).u rfl).u rfl).u rfl, (hH21.sub (.cons _ (List.Sublist.refl _))), (congrArg I (by first | rfl | omega)), (congrArg I (by first | rfl | omega)), ?_, ?_, ?_, ?_⟩
            · have hln := (sh_spec ‹shR s.sh = true›).1; ((try dsimp only); omega)
            · omega
            · exact fun h => by omega
            · exact fun _ => by rw [hm1 ‹_›, ← sum_next h0, sh_get]; first | (exfalso; omega) | (have e : ((s.facs.getD k.toNat fac0).names.length : Int) = highF (s.facs.getD k.toNat fac0).fc := high_2 (f := (s.facs.getD k.toNat fac0).fc) (show (s.facs.getD k.toNat fac0).kind = 2 from ‹_›); omega) | (have e : heightG (s.facs.getD k.toNat fac0).rel = highF (s.facs.getD k.toNat fac0).fc := high_3 (f := (s.facs.getD k.toNat fac0).fc) (show (s.facs.getD k.toNat fac0).kind = 3 from ‹_›); omega) | (have e : (longV (s.facs.getD k.toNat fac0).rel).1 = highF (s.facs.getD k.toNat fac0).fc := high_4 (f := (s.facs.getD k.toNat fac0).fc) (show (s.facs.getD k.toNat fac0).kind = 4 from ‹_›); omega) | (have e : ((s.facs.getD k.toNat fac0).names.length : Int) - 1 = highF (s.facs.getD k.toNat fac0).fc := high_1 (f := (s.facs.getD k.toNat fac0).fc) (by have hat := sh_at ‹shR s.sh = true› (k := k) h0 (by omega); rw [sh_get] at hat; exact hat) (show ¬ (s.facs.getD k.toNat fac0).kind = 2 from ‹_›) (show ¬ (s.facs.getD k.toNat fac0).kind = 3 from ‹_›) (show ¬ (s.facs.getD k.toNat fac0).kind = 4 from ‹_›); omega)
            · exact fun h => by rw [‹shR s.sh = true›] at h; cases h
        · refine CW.skip ?_
          refine CW.seq ?_
          refine CW.seq ?_
          refine CW.region ?_
          refine RL.val rfl (run_fieldAddr Tryz.underlying44 rfl (off := 0) rfl Tryz.sizeOf3 (by decide) rfl) ?_
          refine RL.val rfl (run_ld Tryz.underlying3 rfl rfl (hH15.cell (i := 0) rfl (v := I _) rfl)) ?_
          refine RL.val rfl (run_eql rfl rfl) ?_
          refine RL.nil ?_
          refine CW.condP rfl (fun h28 => ?_) (fun h28 => ?_)
          · refine CW.region ?_
            refine RL.val rfl (run_fieldAddr Tryz.underlying44 rfl (off := 2) rfl Tryz.sizeOf42 (by decide) rfl) ?_
            refine RL.val rfl (run_ldBR Tryz.underlying42 rfl rfl rfl (hH15.blk (i := 0) rfl)) ?_
            refine RL.callP rfl hH15 (c_clearanceref03_Long _  _) (run_call1 Tryz.call40 rfl) ?_
            intro w29 hH30
            refine RL.val rfl (run_move (by conv => lhs; whnf)) ?_
            refine RL.val rfl (run_extract rfl (v := I _) rfl) ?_
            refine RL.val rfl (run_extract rfl (v := B _) rfl) ?_
            refine RL.val rfl (run_assign (v := I _) rfl) ?_
            refine RL.nil ?_
            refine CW.region ?_
            refine RL.val rfl (run_move e3_4) ?_
            refine RL.val rfl (run_move (v := I _) rfl) ?_
            refine RL.val rfl (run_add rfl rfl (by first | omega | (have hsb := sum_bdI ‹shR s.sh = true› h0 (show k ≤ s.sh.facs.length by omega); have hm2 := hm1 ‹_›; have hat := sh_at ‹shR s.sh = true› h0 (show k < s.sh.facs.length by omega); rw [sh_get] at hat; have hhb := high_bd hat; have hnb : 1 ≤ (s.facs.getD k.toNat fac0).names.length ∧ (s.facs.getD k.toNat fac0).names.length ≤ 64 := (fac_spec hat).1; first | omega | (have e : heightG (s.facs.getD k.toNat fac0).rel = highF (s.facs.getD k.toNat fac0).fc := high_3 (f := (s.facs.getD k.toNat fac0).fc) (show (s.facs.getD k.toNat fac0).kind = 3 from ‹_›); omega) | (have e : (longV (s.facs.getD k.toNat fac0).rel).1 = highF (s.facs.getD k.toNat fac0).fc := high_4 (f := (s.facs.getD k.toNat fac0).fc) (show (s.facs.getD k.toNat fac0).kind = 4 from ‹_›); omega)))) ?_
            refine RL.val rfl (run_assign (v := I _) rfl) ?_
            refine RL.nil ?_
            refine CW.region ?_
            refine RL.val rfl (run_move e4_4) ?_
            refine RL.val rfl (run_add rfl rfl (by first | omega | (have hsb := sum_bdI ‹shR s.sh = true› h0 (show k ≤ s.sh.facs.length by omega); have hm2 := hm1 ‹_›; have hat := sh_at ‹shR s.sh = true› h0 (show k < s.sh.facs.length by omega); rw [sh_get] at hat; have hhb := high_bd hat; have hnb : 1 ≤ (s.facs.getD k.toNat fac0).names.length ∧ (s.facs.getD k.toNat fac0).names.length ≤ 64 := (fac_spec hat).1; first | omega | (have e : heightG (s.facs.getD k.toNat fac0).rel = highF (s.facs.getD k.toNat fac0).fc := high_3 (f := (s.facs.getD k.toNat fac0).fc) (show (s.facs.getD k.toNat fac0).kind = 3 from ‹_›); omega) | (have e : (longV (s.facs.getD k.toNat fac0).rel).1 = highF (s.facs.getD k.toNat fac0).fc := high_4 (f := (s.facs.getD k.toNat fac0).fc) (show (s.facs.getD k.toNat fac0).kind = 4 from ‹_›); omega)))) ?_
            refine RL.val rfl (run_assign (v := I _) rfl) ?_
            refine RL.nil ?_
            refine ⟨(k + 1, _), ?_, ((((((((((((((((((((((((((((((((((((((((((((((fr4.u rfl).u rfl).u rfl).u rfl).u rfl).u rfl).u rfl).u rfl).u rfl).u rfl).u rfl).u rfl).u rfl).u rfl).u rfl).u rfl).u rfl).u rfl).u rfl).u rfl).u rfl).u rfl).u rfl).u rfl).u rfl).u rfl).u rfl).u rfl).u rfl).u rfl).u rfl).u rfl).u rfl).u rfl).u rfl).u rfl).u rfl).u rfl).u rfl).u rfl).u rfl).u rfl).u rfl).u rfl).u rfl).u rfl).u rfl, (hH30.sub (.cons _ (List.Sublist.refl _))), (congrArg I (by first | rfl | omega)), (congrArg I (by first | rfl | omega)), ?_, ?_, ?_, ?_⟩
            · have hln := (sh_spec ‹shR s.sh = true›).1; ((try dsimp only); omega)
            · omega
            · exact fun h => by omega
            · exact fun _ => by rw [hm1 ‹_›, ← sum_next h0, sh_get]; first | (exfalso; omega) | (have e : ((s.facs.getD k.toNat fac0).names.length : Int) = highF (s.facs.getD k.toNat fac0).fc := high_2 (f := (s.facs.getD k.toNat fac0).fc) (show (s.facs.getD k.toNat fac0).kind = 2 from ‹_›); omega) | (have e : heightG (s.facs.getD k.toNat fac0).rel = highF (s.facs.getD k.toNat fac0).fc := high_3 (f := (s.facs.getD k.toNat fac0).fc) (show (s.facs.getD k.toNat fac0).kind = 3 from ‹_›); omega) | (have e : (longV (s.facs.getD k.toNat fac0).rel).1 = highF (s.facs.getD k.toNat fac0).fc := high_4 (f := (s.facs.getD k.toNat fac0).fc) (show (s.facs.getD k.toNat fac0).kind = 4 from ‹_›); omega) | (have e : ((s.facs.getD k.toNat fac0).names.length : Int) - 1 = highF (s.facs.getD k.toNat fac0).fc := high_1 (f := (s.facs.getD k.toNat fac0).fc) (by have hat := sh_at ‹shR s.sh = true› (k := k) h0 (by omega); rw [sh_get] at hat; exact hat) (show ¬ (s.facs.getD k.toNat fac0).kind = 2 from ‹_›) (show ¬ (s.facs.getD k.toNat fac0).kind = 3 from ‹_›) (show ¬ (s.facs.getD k.toNat fac0).kind = 4 from ‹_›); omega)
            · exact fun h => by rw [‹shR s.sh = true›] at h; cases h
          · refine CW.skip ?_
            refine CW.region ?_
            refine RL.val rfl (run_move e3_4) ?_
            refine RL.val rfl (run_move (v := I _) rfl) ?_
            refine RL.val rfl (run_add rfl rfl (by first | omega | (have hsb := sum_bdI ‹shR s.sh = true› h0 (show k ≤ s.sh.facs.length by omega); have hm2 := hm1 ‹_›; have hat := sh_at ‹shR s.sh = true› h0 (show k < s.sh.facs.length by omega); rw [sh_get] at hat; have hhb := high_bd hat; have hnb : 1 ≤ (s.facs.getD k.toNat fac0).names.length ∧ (s.facs.getD k.toNat fac0).names.length ≤ 64 := (fac_spec hat).1; first | omega | (have e : heightG (s.facs.getD k.toNat fac0).rel = highF (s.facs.getD k.toNat fac0).fc := high_3 (f := (s.facs.getD k.toNat fac0).fc) (show (s.facs.getD k.toNat fac0).kind = 3 from ‹_›); omega) | (have e : (longV (s.facs.getD k.toNat fac0).rel).1 = highF (s.facs.getD k.toNat fac0).fc := high_4 (f := (s.facs.getD k.toNat fac0).fc) (show (s.facs.getD k.toNat fac0).kind = 4 from ‹_›); omega)))) ?_
            refine RL.val rfl (run_assign (v := I _) rfl) ?_
            refine RL.nil ?_
            refine CW.region ?_
            refine RL.val rfl (run_move e4_4) ?_
            refine RL.val rfl (run_add rfl rfl (by first | omega | (have hsb := sum_bdI ‹shR s.sh = true› h0 (show k ≤ s.sh.facs.length by omega); have hm2 := hm1 ‹_›; have hat := sh_at ‹shR s.sh = true› h0 (show k < s.sh.facs.length by omega); rw [sh_get] at hat; have hhb := high_bd hat; have hnb : 1 ≤ (s.facs.getD k.toNat fac0).names.length ∧ (s.facs.getD k.toNat fac0).names.length ≤ 64 := (fac_spec hat).1; first | omega | (have e : heightG (s.facs.getD k.toNat fac0).rel = highF (s.facs.getD k.toNat fac0).fc := high_3 (f := (s.facs.getD k.toNat fac0).fc) (show (s.facs.getD k.toNat fac0).kind = 3 from ‹_›); omega) | (have e : (longV (s.facs.getD k.toNat fac0).rel).1 = highF (s.facs.getD k.toNat fac0).fc := high_4 (f := (s.facs.getD k.toNat fac0).fc) (show (s.facs.getD k.toNat fac0).kind = 4 from ‹_›); omega)))) ?_
            refine RL.val rfl (run_assign (v := I _) rfl) ?_
            refine RL.nil ?_
            refine ⟨(k + 1, _), ?_, (((((((((((((((((((((((((((((((((((((((fr4.u rfl).u rfl).u rfl).u rfl).u rfl).u rfl).u rfl).u rfl).u rfl).u rfl).u rfl).u rfl).u rfl).u rfl).u rfl).u rfl).u rfl).u rfl).u rfl).u rfl).u rfl).u rfl).u rfl).u rfl).u rfl).u rfl).u rfl).u rfl).u rfl).u rfl).u rfl).u rfl).u rfl).u rfl).u rfl).u rfl).u rfl).u rfl).u rfl).u rfl, (hH15.sub (.cons _ (List.Sublist.refl _))), (congrArg I (by first | rfl | omega)), (congrArg I (by first | rfl | omega)), ?_, ?_, ?_, ?_⟩
            · have hln := (sh_spec ‹shR s.sh = true›).1; ((try dsimp only); omega)
            · omega
            · exact fun h => by omega
            · exact fun _ => by rw [hm1 ‹_›, ← sum_next h0, sh_get]; first | (exfalso; omega) | (have e : ((s.facs.getD k.toNat fac0).names.length : Int) = highF (s.facs.getD k.toNat fac0).fc := high_2 (f := (s.facs.getD k.toNat fac0).fc) (show (s.facs.getD k.toNat fac0).kind = 2 from ‹_›); omega) | (have e : heightG (s.facs.getD k.toNat fac0).rel = highF (s.facs.getD k.toNat fac0).fc := high_3 (f := (s.facs.getD k.toNat fac0).fc) (show (s.facs.getD k.toNat fac0).kind = 3 from ‹_›); omega) | (have e : (longV (s.facs.getD k.toNat fac0).rel).1 = highF (s.facs.getD k.toNat fac0).fc := high_4 (f := (s.facs.getD k.toNat fac0).fc) (show (s.facs.getD k.toNat fac0).kind = 4 from ‹_›); omega) | (have e : ((s.facs.getD k.toNat fac0).names.length : Int) - 1 = highF (s.facs.getD k.toNat fac0).fc := high_1 (f := (s.facs.getD k.toNat fac0).fc) (by have hat := sh_at ‹shR s.sh = true› (k := k) h0 (by omega); rw [sh_get] at hat; exact hat) (show ¬ (s.facs.getD k.toNat fac0).kind = 2 from ‹_›) (show ¬ (s.facs.getD k.toNat fac0).kind = 3 from ‹_›) (show ¬ (s.facs.getD k.toNat fac0).kind = 4 from ‹_›); omega)
            · exact fun h => by rw [‹shR s.sh = true›] at h; cases h
      · refine CW.skip ?_
        refine CW.seq ?_
        refine CW.seq ?_
        refine CW.region ?_
        refine RL.val rfl (run_fieldAddr Tryz.underlying44 rfl (off := 0) rfl Tryz.sizeOf3 (by decide) rfl) ?_
        refine RL.val rfl (run_ld Tryz.underlying3 rfl rfl (hH15.cell (i := 0) rfl (v := I _) rfl)) ?_
        refine RL.val rfl (run_eql rfl rfl) ?_
        refine RL.nil ?_
        refine CW.condP rfl (fun h33 => ?_) (fun h33 => ?_)
        · refine CW.region ?_
          refine RL.val rfl (run_fieldAddr Tryz.underlying44 rfl (off := 2) rfl Tryz.sizeOf42 (by decide) rfl) ?_
          refine RL.val rfl (run_ldBR Tryz.underlying42 rfl rfl rfl (hH15.blk (i := 0) rfl)) ?_
          refine RL.callP rfl hH15 (c_clearanceref05_Height _  _) (run_call1 Tryz.call39 rfl) ?_
          intro w34 hH35
          refine RL.val rfl (run_assign (v := I _) rfl) ?_
          refine RL.nil ?_
          refine CW.seq ?_
          refine CW.seq ?_
          refine CW.region ?_
          refine RL.val rfl (run_fieldAddr Tryz.underlying44 rfl (off := 0) rfl Tryz.sizeOf3 (by decide) rfl) ?_
          refine RL.val rfl (run_ld Tryz.underlying3 rfl rfl (hH35.cell (i := 0) rfl (v := I _) rfl)) ?_
          refine RL.val rfl (run_eql rfl rfl) ?_
          refine RL.nil ?_
          refine CW.condP rfl (fun h37 => ?_) (fun h37 => ?_)
          · refine CW.region ?_
            refine RL.val rfl (run_fieldAddr Tryz.underlying44 rfl (off := 2) rfl Tryz.sizeOf42 (by decide) rfl) ?_
            refine RL.val rfl (run_ldBR Tryz.underlying42 rfl rfl rfl (hH35.blk (i := 0) rfl)) ?_
            refine RL.callP rfl hH35 (c_clearanceref03_Long _  _) (run_call1 Tryz.call40 rfl) ?_
            intro w38 hH39
            refine RL.val rfl (run_move (by conv => lhs; whnf)) ?_
            refine RL.val rfl (run_extract rfl (v := I _) rfl) ?_
            refine RL.val rfl (run_extract rfl (v := B _) rfl) ?_
            refine RL.val rfl (run_assign (v := I _) rfl) ?_
            refine RL.nil ?_
            refine CW.region ?_
            refine RL.val rfl (run_move e3_4) ?_
            refine RL.val rfl (run_move (v := I _) rfl) ?_
            refine RL.val rfl (run_add rfl rfl (by first | omega | (have hsb := sum_bdI ‹shR s.sh = true› h0 (show k ≤ s.sh.facs.length by omega); have hm2 := hm1 ‹_›; have hat := sh_at ‹shR s.sh = true› h0 (show k < s.sh.facs.length by omega); rw [sh_get] at hat; have hhb := high_bd hat; have hnb : 1 ≤ (s.facs.getD k.toNat fac0).names.length ∧ (s.facs.getD k.toNat fac0).names.length ≤ 64 := (fac_spec hat).1; first | omega | (have e : heightG (s.facs.getD k.toNat fac0).rel = highF (s.facs.getD k.toNat fac0).fc := high_3 (f := (s.facs.getD k.toNat fac0).fc) (show (s.facs.getD k.toNat fac0).kind = 3 from ‹_›); omega) | (have e : (longV (s.facs.getD k.toNat fac0).rel).1 = highF (s.facs.getD k.toNat fac0).fc := high_4 (f := (s.facs.getD k.toNat fac0).fc) (show (s.facs.getD k.toNat fac0).kind = 4 from ‹_›); omega)))) ?_
            refine RL.val rfl (run_assign (v := I _) rfl) ?_
            refine RL.nil ?_
            refine CW.region ?_
            refine RL.val rfl (run_move e4_4) ?_
            refine RL.val rfl (run_add rfl rfl (by first | omega | (have hsb := sum_bdI ‹shR s.sh = true› h0 (show k ≤ s.sh.facs.length by omega); have hm2 := hm1 ‹_›; have hat := sh_at ‹shR s.sh = true› h0 (show k < s.sh.facs.length by omega); rw [sh_get] at hat; have hhb := high_bd hat; have hnb : 1 ≤ (s.facs.getD k.toNat fac0).names.length ∧ (s.facs.getD k.toNat fac0).names.length ≤ 64 := (fac_spec hat).1; first | omega | (have e : heightG (s.facs.getD k.toNat fac0).rel = highF (s.facs.getD k.toNat fac0).fc := high_3 (f := (s.facs.getD k.toNat fac0).fc) (show (s.facs.getD k.toNat fac0).kind = 3 from ‹_›); omega) | (have e : (longV (s.facs.getD k.toNat fac0).rel).1 = highF (s.facs.getD k.toNat fac0).fc := high_4 (f := (s.facs.getD k.toNat fac0).fc) (show (s.facs.getD k.toNat fac0).kind = 4 from ‹_›); omega)))) ?_
            refine RL.val rfl (run_assign (v := I _) rfl) ?_
            refine RL.nil ?_
            refine ⟨(k + 1, _), ?_, ((((((((((((((((((((((((((((((((((((((((((((((fr4.u rfl).u rfl).u rfl).u rfl).u rfl).u rfl).u rfl).u rfl).u rfl).u rfl).u rfl).u rfl).u rfl).u rfl).u rfl).u rfl).u rfl).u rfl).u rfl).u rfl).u rfl).u rfl).u rfl).u rfl).u rfl).u rfl).u rfl).u rfl).u rfl).u rfl).u rfl).u rfl).u rfl).u rfl).u rfl).u rfl).u rfl).u rfl).u rfl).u rfl).u rfl).u rfl).u rfl).u rfl).u rfl).u rfl).u rfl, (hH39.sub (.cons _ (List.Sublist.refl _))), (congrArg I (by first | rfl | omega)), (congrArg I (by first | rfl | omega)), ?_, ?_, ?_, ?_⟩
            · have hln := (sh_spec ‹shR s.sh = true›).1; ((try dsimp only); omega)
            · omega
            · exact fun h => by omega
            · exact fun _ => by rw [hm1 ‹_›, ← sum_next h0, sh_get]; first | (exfalso; omega) | (have e : ((s.facs.getD k.toNat fac0).names.length : Int) = highF (s.facs.getD k.toNat fac0).fc := high_2 (f := (s.facs.getD k.toNat fac0).fc) (show (s.facs.getD k.toNat fac0).kind = 2 from ‹_›); omega) | (have e : heightG (s.facs.getD k.toNat fac0).rel = highF (s.facs.getD k.toNat fac0).fc := high_3 (f := (s.facs.getD k.toNat fac0).fc) (show (s.facs.getD k.toNat fac0).kind = 3 from ‹_›); omega) | (have e : (longV (s.facs.getD k.toNat fac0).rel).1 = highF (s.facs.getD k.toNat fac0).fc := high_4 (f := (s.facs.getD k.toNat fac0).fc) (show (s.facs.getD k.toNat fac0).kind = 4 from ‹_›); omega) | (have e : ((s.facs.getD k.toNat fac0).names.length : Int) - 1 = highF (s.facs.getD k.toNat fac0).fc := high_1 (f := (s.facs.getD k.toNat fac0).fc) (by have hat := sh_at ‹shR s.sh = true› (k := k) h0 (by omega); rw [sh_get] at hat; exact hat) (show ¬ (s.facs.getD k.toNat fac0).kind = 2 from ‹_›) (show ¬ (s.facs.getD k.toNat fac0).kind = 3 from ‹_›) (show ¬ (s.facs.getD k.toNat fac0).kind = 4 from ‹_›); omega)
            · exact fun h => by rw [‹shR s.sh = true›] at h; cases h
          · refine CW.skip ?_
            refine CW.region ?_
            refine RL.val rfl (run_move e3_4) ?_
            refine RL.val rfl (run_move (v := I _) rfl) ?_
            refine RL.val rfl (run_add rfl rfl (by first | omega | (have hsb := sum_bdI ‹shR s.sh = true› h0 (show k ≤ s.sh.facs.length by omega); have hm2 := hm1 ‹_›; have hat := sh_at ‹shR s.sh = true› h0 (show k < s.sh.facs.length by omega); rw [sh_get] at hat; have hhb := high_bd hat; have hnb : 1 ≤ (s.facs.getD k.toNat fac0).names.length ∧ (s.facs.getD k.toNat fac0).names.length ≤ 64 := (fac_spec hat).1; first | omega | (have e : heightG (s.facs.getD k.toNat fac0).rel = highF (s.facs.getD k.toNat fac0).fc := high_3 (f := (s.facs.getD k.toNat fac0).fc) (show (s.facs.getD k.toNat fac0).kind = 3 from ‹_›); omega) | (have e : (longV (s.facs.getD k.toNat fac0).rel).1 = highF (s.facs.getD k.toNat fac0).fc := high_4 (f := (s.facs.getD k.toNat fac0).fc) (show (s.facs.getD k.toNat fac0).kind = 4 from ‹_›); omega)))) ?_
            refine RL.val rfl (run_assign (v := I _) rfl) ?_
            refine RL.nil ?_
            refine CW.region ?_
            refine RL.val rfl (run_move e4_4) ?_
            refine RL.val rfl (run_add rfl rfl (by first | omega | (have hsb := sum_bdI ‹shR s.sh = true› h0 (show k ≤ s.sh.facs.length by omega); have hm2 := hm1 ‹_›; have hat := sh_at ‹shR s.sh = true› h0 (show k < s.sh.facs.length by omega); rw [sh_get] at hat; have hhb := high_bd hat; have hnb : 1 ≤ (s.facs.getD k.toNat fac0).names.length ∧ (s.facs.getD k.toNat fac0).names.length ≤ 64 := (fac_spec hat).1; first | omega | (have e : heightG (s.facs.getD k.toNat fac0).rel = highF (s.facs.getD k.toNat fac0).fc := high_3 (f := (s.facs.getD k.toNat fac0).fc) (show (s.facs.getD k.toNat fac0).kind = 3 from ‹_›); omega) | (have e : (longV (s.facs.getD k.toNat fac0).rel).1 = highF (s.facs.getD k.toNat fac0).fc := high_4 (f := (s.facs.getD k.toNat fac0).fc) (show (s.facs.getD k.toNat fac0).kind = 4 from ‹_›); omega)))) ?_
            refine RL.val rfl (run_assign (v := I _) rfl) ?_
            refine RL.nil ?_
            refine ⟨(k + 1, _), ?_, (((((((((((((((((((((((((((((((((((((((fr4.u rfl).u rfl).u rfl).u rfl).u rfl).u rfl).u rfl).u rfl).u rfl).u rfl).u rfl).u rfl).u rfl).u rfl).u rfl).u rfl).u rfl).u rfl).u rfl).u rfl).u rfl).u rfl).u rfl).u rfl).u rfl).u rfl).u rfl).u rfl).u rfl).u rfl).u rfl).u rfl).u rfl).u rfl).u rfl).u rfl).u rfl).u rfl).u rfl).u rfl, (hH35.sub (.cons _ (List.Sublist.refl _))), (congrArg I (by first | rfl | omega)), (congrArg I (by first | rfl | omega)), ?_, ?_, ?_, ?_⟩
            · have hln := (sh_spec ‹shR s.sh = true›).1; ((try dsimp only); omega)
            · omega
            · exact fun h => by omega
            · exact fun _ => by rw [hm1 ‹_›, ← sum_next h0, sh_get]; first | (exfalso; omega) | (have e : ((s.facs.getD k.toNat fac0).names.length : Int) = highF (s.facs.getD k.toNat fac0).fc := high_2 (f := (s.facs.getD k.toNat fac0).fc) (show (s.facs.getD k.toNat fac0).kind = 2 from ‹_›); omega) | (have e : heightG (s.facs.getD k.toNat fac0).rel = highF (s.facs.getD k.toNat fac0).fc := high_3 (f := (s.facs.getD k.toNat fac0).fc) (show (s.facs.getD k.toNat fac0).kind = 3 from ‹_›); omega) | (have e : (longV (s.facs.getD k.toNat fac0).rel).1 = highF (s.facs.getD k.toNat fac0).fc := high_4 (f := (s.facs.getD k.toNat fac0).fc) (show (s.facs.getD k.toNat fac0).kind = 4 from ‹_›); omega) | (have e : ((s.facs.getD k.toNat fac0).names.length : Int) - 1 = highF (s.facs.getD k.toNat fac0).fc := high_1 (f := (s.facs.getD k.toNat fac0).fc) (by have hat := sh_at ‹shR s.sh = true› (k := k) h0 (by omega); rw [sh_get] at hat; exact hat) (show ¬ (s.facs.getD k.toNat fac0).kind = 2 from ‹_›) (show ¬ (s.facs.getD k.toNat fac0).kind = 3 from ‹_›) (show ¬ (s.facs.getD k.toNat fac0).kind = 4 from ‹_›); omega)
            · exact fun h => by rw [‹shR s.sh = true›] at h; cases h
        · refine CW.skip ?_
          refine CW.seq ?_
          refine CW.seq ?_
          refine CW.region ?_
          refine RL.val rfl (run_fieldAddr Tryz.underlying44 rfl (off := 0) rfl Tryz.sizeOf3 (by decide) rfl) ?_
          refine RL.val rfl (run_ld Tryz.underlying3 rfl rfl (hH15.cell (i := 0) rfl (v := I _) rfl)) ?_
          refine RL.val rfl (run_eql rfl rfl) ?_
          refine RL.nil ?_
          refine CW.condP rfl (fun h42 => ?_) (fun h42 => ?_)
          · refine CW.region ?_
            refine RL.val rfl (run_fieldAddr Tryz.underlying44 rfl (off := 2) rfl Tryz.sizeOf42 (by decide) rfl) ?_
            refine RL.val rfl (run_ldBR Tryz.underlying42 rfl rfl rfl (hH15.blk (i := 0) rfl)) ?_
            refine RL.callP rfl hH15 (c_clearanceref03_Long _  _) (run_call1 Tryz.call40 rfl) ?_
            intro w43 hH44
            refine RL.val rfl (run_move (by conv => lhs; whnf)) ?_
            refine RL.val rfl (run_extract rfl (v := I _) rfl) ?_
            refine RL.val rfl (run_extract rfl (v := B _) rfl) ?_
            refine RL.val rfl (run_assign (v := I _) rfl) ?_
            refine RL.nil ?_
            refine CW.region ?_
            refine RL.val rfl (run_move e3_4) ?_
            refine RL.val rfl (run_move (v := I _) rfl) ?_
            refine RL.val rfl (run_add rfl rfl (by first | omega | (have hsb := sum_bdI ‹shR s.sh = true› h0 (show k ≤ s.sh.facs.length by omega); have hm2 := hm1 ‹_›; have hat := sh_at ‹shR s.sh = true› h0 (show k < s.sh.facs.length by omega); rw [sh_get] at hat; have hhb := high_bd hat; have hnb : 1 ≤ (s.facs.getD k.toNat fac0).names.length ∧ (s.facs.getD k.toNat fac0).names.length ≤ 64 := (fac_spec hat).1; first | omega | (have e : heightG (s.facs.getD k.toNat fac0).rel = highF (s.facs.getD k.toNat fac0).fc := high_3 (f := (s.facs.getD k.toNat fac0).fc) (show (s.facs.getD k.toNat fac0).kind = 3 from ‹_›); omega) | (have e : (longV (s.facs.getD k.toNat fac0).rel).1 = highF (s.facs.getD k.toNat fac0).fc := high_4 (f := (s.facs.getD k.toNat fac0).fc) (show (s.facs.getD k.toNat fac0).kind = 4 from ‹_›); omega)))) ?_
            refine RL.val rfl (run_assign (v := I _) rfl) ?_
            refine RL.nil ?_
            refine CW.region ?_
            refine RL.val rfl (run_move e4_4) ?_
            refine RL.val rfl (run_add rfl rfl (by first | omega | (have hsb := sum_bdI ‹shR s.sh = true› h0 (show k ≤ s.sh.facs.length by omega); have hm2 := hm1 ‹_›; have hat := sh_at ‹shR s.sh = true› h0 (show k < s.sh.facs.length by omega); rw [sh_get] at hat; have hhb := high_bd hat; have hnb : 1 ≤ (s.facs.getD k.toNat fac0).names.length ∧ (s.facs.getD k.toNat fac0).names.length ≤ 64 := (fac_spec hat).1; first | omega | (have e : heightG (s.facs.getD k.toNat fac0).rel = highF (s.facs.getD k.toNat fac0).fc := high_3 (f := (s.facs.getD k.toNat fac0).fc) (show (s.facs.getD k.toNat fac0).kind = 3 from ‹_›); omega) | (have e : (longV (s.facs.getD k.toNat fac0).rel).1 = highF (s.facs.getD k.toNat fac0).fc := high_4 (f := (s.facs.getD k.toNat fac0).fc) (show (s.facs.getD k.toNat fac0).kind = 4 from ‹_›); omega)))) ?_
            refine RL.val rfl (run_assign (v := I _) rfl) ?_
            refine RL.nil ?_
            refine ⟨(k + 1, _), ?_, ((((((((((((((((((((((((((((((((((((((((((fr4.u rfl).u rfl).u rfl).u rfl).u rfl).u rfl).u rfl).u rfl).u rfl).u rfl).u rfl).u rfl).u rfl).u rfl).u rfl).u rfl).u rfl).u rfl).u rfl).u rfl).u rfl).u rfl).u rfl).u rfl).u rfl).u rfl).u rfl).u rfl).u rfl).u rfl).u rfl).u rfl).u rfl).u rfl).u rfl).u rfl).u rfl).u rfl).u rfl).u rfl).u rfl).u rfl).u rfl, (hH44.sub (.cons _ (List.Sublist.refl _))), (congrArg I (by first | rfl | omega)), (congrArg I (by first | rfl | omega)), ?_, ?_, ?_, ?_⟩
            · have hln := (sh_spec ‹shR s.sh = true›).1; ((try dsimp only); omega)
            · omega
            · exact fun h => by omega
            · exact fun _ => by rw [hm1 ‹_›, ← sum_next h0, sh_get]; first | (exfalso; omega) | (have e : ((s.facs.getD k.toNat fac0).names.length : Int) = highF (s.facs.getD k.toNat fac0).fc := high_2 (f := (s.facs.getD k.toNat fac0).fc) (show (s.facs.getD k.toNat fac0).kind = 2 from ‹_›); omega) | (have e : heightG (s.facs.getD k.toNat fac0).rel = highF (s.facs.getD k.toNat fac0).fc := high_3 (f := (s.facs.getD k.toNat fac0).fc) (show (s.facs.getD k.toNat fac0).kind = 3 from ‹_›); omega) | (have e : (longV (s.facs.getD k.toNat fac0).rel).1 = highF (s.facs.getD k.toNat fac0).fc := high_4 (f := (s.facs.getD k.toNat fac0).fc) (show (s.facs.getD k.toNat fac0).kind = 4 from ‹_›); omega) | (have e : ((s.facs.getD k.toNat fac0).names.length : Int) - 1 = highF (s.facs.getD k.toNat fac0).fc := high_1 (f := (s.facs.getD k.toNat fac0).fc) (by have hat := sh_at ‹shR s.sh = true› (k := k) h0 (by omega); rw [sh_get] at hat; exact hat) (show ¬ (s.facs.getD k.toNat fac0).kind = 2 from ‹_›) (show ¬ (s.facs.getD k.toNat fac0).kind = 3 from ‹_›) (show ¬ (s.facs.getD k.toNat fac0).kind = 4 from ‹_›); omega)
            · exact fun h => by rw [‹shR s.sh = true›] at h; cases h
          · refine CW.skip ?_
            refine CW.region ?_
            refine RL.val rfl (run_move e3_4) ?_
            refine RL.val rfl (run_move (v := I _) rfl) ?_
            refine RL.val rfl (run_add rfl rfl (by first | omega | (have hsb := sum_bdI ‹shR s.sh = true› h0 (show k ≤ s.sh.facs.length by omega); have hm2 := hm1 ‹_›; have hat := sh_at ‹shR s.sh = true› h0 (show k < s.sh.facs.length by omega); rw [sh_get] at hat; have hhb := high_bd hat; have hnb : 1 ≤ (s.facs.getD k.toNat fac0).names.length ∧ (s.facs.getD k.toNat fac0).names.length ≤ 64 := (fac_spec hat).1; first | omega | (have e : heightG (s.facs.getD k.toNat fac0).rel = highF (s.facs.getD k.toNat fac0).fc := high_3 (f := (s.facs.getD k.toNat fac0).fc) (show (s.facs.getD k.toNat fac0).kind = 3 from ‹_›); omega) | (have e : (longV (s.facs.getD k.toNat fac0).rel).1 = highF (s.facs.getD k.toNat fac0).fc := high_4 (f := (s.facs.getD k.toNat fac0).fc) (show (s.facs.getD k.toNat fac0).kind = 4 from ‹_›); omega)))) ?_
            refine RL.val rfl (run_assign (v := I _) rfl) ?_
            refine RL.nil ?_
            refine CW.region ?_
            refine RL.val rfl (run_move e4_4) ?_
            refine RL.val rfl (run_add rfl rfl (by first | omega | (have hsb := sum_bdI ‹shR s.sh = true› h0 (show k ≤ s.sh.facs.length by omega); have hm2 := hm1 ‹_›; have hat := sh_at ‹shR s.sh = true› h0 (show k < s.sh.facs.length by omega); rw [sh_get] at hat; have hhb := high_bd hat; have hnb : 1 ≤ (s.facs.getD k.toNat fac0).names.length ∧ (s.facs.getD k.toNat fac0).names.length ≤ 64 := (fac_spec hat).1; first | omega | (have e : heightG (s.facs.getD k.toNat fac0).rel = highF (s.facs.getD k.toNat fac0).fc := high_3 (f := (s.facs.getD k.toNat fac0).fc) (show (s.facs.getD k.toNat fac0).kind = 3 from ‹_›); omega) | (have e : (longV (s.facs.getD k.toNat fac0).rel).1 = highF (s.facs.getD k.toNat fac0).fc := high_4 (f := (s.facs.getD k.toNat fac0).fc) (show (s.facs.getD k.toNat fac0).kind = 4 from ‹_›); omega)))) ?_
            refine RL.val rfl (run_assign (v := I _) rfl) ?_
            refine RL.nil ?_
            refine ⟨(k + 1, _), ?_, (((((((((((((((((((((((((((((((((((fr4.u rfl).u rfl).u rfl).u rfl).u rfl).u rfl).u rfl).u rfl).u rfl).u rfl).u rfl).u rfl).u rfl).u rfl).u rfl).u rfl).u rfl).u rfl).u rfl).u rfl).u rfl).u rfl).u rfl).u rfl).u rfl).u rfl).u rfl).u rfl).u rfl).u rfl).u rfl).u rfl).u rfl).u rfl).u rfl).u rfl, (hH15.sub (.cons _ (List.Sublist.refl _))), (congrArg I (by first | rfl | omega)), (congrArg I (by first | rfl | omega)), ?_, ?_, ?_, ?_⟩
            · have hln := (sh_spec ‹shR s.sh = true›).1; ((try dsimp only); omega)
            · omega
            · exact fun h => by omega
            · exact fun _ => by rw [hm1 ‹_›, ← sum_next h0, sh_get]; first | (exfalso; omega) | (have e : ((s.facs.getD k.toNat fac0).names.length : Int) = highF (s.facs.getD k.toNat fac0).fc := high_2 (f := (s.facs.getD k.toNat fac0).fc) (show (s.facs.getD k.toNat fac0).kind = 2 from ‹_›); omega) | (have e : heightG (s.facs.getD k.toNat fac0).rel = highF (s.facs.getD k.toNat fac0).fc := high_3 (f := (s.facs.getD k.toNat fac0).fc) (show (s.facs.getD k.toNat fac0).kind = 3 from ‹_›); omega) | (have e : (longV (s.facs.getD k.toNat fac0).rel).1 = highF (s.facs.getD k.toNat fac0).fc := high_4 (f := (s.facs.getD k.toNat fac0).fc) (show (s.facs.getD k.toNat fac0).kind = 4 from ‹_›); omega) | (have e : ((s.facs.getD k.toNat fac0).names.length : Int) - 1 = highF (s.facs.getD k.toNat fac0).fc := high_1 (f := (s.facs.getD k.toNat fac0).fc) (by have hat := sh_at ‹shR s.sh = true› (k := k) h0 (by omega); rw [sh_get] at hat; exact hat) (show ¬ (s.facs.getD k.toNat fac0).kind = 2 from ‹_›) (show ¬ (s.facs.getD k.toNat fac0).kind = 3 from ‹_›) (show ¬ (s.facs.getD k.toNat fac0).kind = 4 from ‹_›); omega)
            · exact fun h => by rw [‹shR s.sh = true›] at h; cases h
    · refine CW.exit (id := 0) rfl ?_
      refine CW.seq ?_
      refine CW.region ?_
      refine RL.val rfl (run_move e3_4) ?_
      refine RL.val rfl (run_assign (v := I _) rfl) ?_
      refine RL.nil ?_
      refine CW.ret ?_
      refine outP1 Tryz.results15 (congrArg I ?_) hH6.below
      first | (rw [hz ‹_›]; exact (height_nil ‹_›).symm) | (rw [hm1 ‹_›]; exact height_is ‹_› (by have := hk ‹_›; omega))
  · refine RL.gF rfl rfl (bR (c := false) h8) rfl ?_
    refine RL.gF rfl rfl (bR (c := false) h8) rfl ?_
    refine RL.gF rfl rfl (bR (c := false) h8) rfl ?_
    refine RL.gF rfl rfl (bR (c := false) h8) rfl ?_
    refine RL.gF rfl rfl (bR (c := false) h8) rfl ?_
    refine RL.val rfl (run_pickF (bR (c := false) h8) (v := B false) rfl) ?_
    refine RL.nil ?_
    refine CW.condF rfl ?_
    refine CW.exit (id := 0) rfl ?_
    refine CW.seq ?_
    refine CW.region ?_
    refine RL.val rfl (run_move e3_4) ?_
    refine RL.val rfl (run_assign (v := I _) rfl) ?_
    refine RL.nil ?_
    refine CW.ret ?_
    refine outP1 Tryz.results15 (congrArg I ?_) hH6.below
    first | (rw [hz ‹_›]; exact (height_nil ‹_›).symm) | (rw [hm1 ‹_›]; exact height_is ‹_› (by have := hk ‹_›; omega))

theorem c_clearancelaw07_Big (s : Shp) (w : World) (hs : ShpV (Kw w) s) : Calls Tryz.prog 5 #[.agg (shpC s)] w (Pure (B (bigS s.sh)) w) := by
  have hsl := sh_len s
  have hm := hs.facs.sl.small
  unfold maxLen at hm
  refine enter Tryz.func5 rfl Tryz.ntmps5 rfl ?_
  have hH := Hp.start w
  refine CW.seq ?_
  refine CW.region ?_
  refine RL.new rfl hH (f := fun b => (.pointer (some ⟨b, 0, none⟩))) (run_box (v := .agg _) rfl) ?_
  intro b3 w1 hH2
  refine RL.val rfl (run_assign (v := B false) rfl) ?_
  refine RL.nil ?_
  refine CW.seq ?_
  refine CW.seq ?_
  refine CW.region ?_
  refine RL.val rfl (run_fieldAddr Tryz.underlying24 rfl (off := 1) rfl Tryz.sizeOf22 (by decide) rfl) ?_
  refine RL.val rfl (run_ld Tryz.underlying22 rfl rfl (hH2.cell (i := 0) rfl rfl)) ?_
  refine RL.val rfl (run_lenSl (hs.facs.sl.hp hH2) rfl Tryz.underlying22 rfl) ?_
  refine RL.val rfl (run_gtr rfl rfl) ?_
  refine RL.nil ?_
  refine CW.condP rfl (fun h5 => ?_) (fun h5 => ?_)
  · refine CW.seq ?_
    refine CW.region ?_
    refine RL.val rfl (run_assign (v := B true) rfl) ?_
    refine RL.nil ?_
    refine CW.ret ?_
    refine outP1 Tryz.results5 (congrArg B ?_) hH2.below
    first | exact (big_1 (s := s.sh) (by omega)).symm | exact (big_2 (s := s.sh) (k := k) h0 (by omega) (by rw [sh_get]; first | exact bigN_1 (by show 70 < (s.facs.getD k.toNat fac0).names.length; omega) | exact bigN_2 i0 ‹_› (by show 40 < ((s.facs.getD k.toNat fac0).names.getD i.toNat tx0).size; omega))).symm | exact (big_no (s := s.sh) (k := k) (by omega) (by omega) fun j a b => by rw [sh_get]; exact hg j a b).symm
  · refine CW.skip ?_
    refine CW.seq ?_
    refine CW.seq ?_
    refine CW.region ?_
    refine RL.val rfl (run_assign (v := I 0) rfl) ?_
    refine RL.nil ?_
    refine CW.block ?_
    refine CW.loop (G := (Int)) (fun (k : Int) s' w' => (Fr [2, 3, 4, 5, 10, 11, 12, 13, 14, 15, 16, 17, 18, 19, 20, 21, 22, 23, 24, 25, 26, 27, 28, 29, 30, 31, 32, 33, 34, 35, 36, 37, 38, 39] _ s') ∧ (Hp w w' _) ∧ (s' 3 = I k) ∧ (0 ≤ k) ∧ (k ≤ s.facs.length) ∧ (∀ j : Int, 0 ≤ j → j < k → bigN (s.facs.getD j.toNat fac0).names = false)) (fun (k : Int) => (s.facs.length - k).toNat) (0) ⟨Fr.refl _ _, hH2, rfl, (by omega), (by omega), fun j a b => absurd b (by omega)⟩ ?_
    rintro k sg6 w6 ⟨fr6, hH6, e3_6, h0, hk, hg⟩
    have e1_6 : sg6 1 = .pointer (some ⟨_, _, none⟩) := (fr6 1 rfl).trans rfl
    refine CW.seq ?_
    refine CW.seq ?_
    refine CW.region ?_
    refine RL.val rfl (run_move e3_6) ?_
    refine RL.val rfl (run_fieldAddr Tryz.underlying24 rfl (off := 1) rfl Tryz.sizeOf22 (by decide) e1_6) ?_
    refine RL.val rfl (run_ld Tryz.underlying22 rfl rfl (hH6.cell (i := 0) rfl rfl)) ?_
    refine RL.val rfl (run_lenSl (hs.facs.sl.hp hH6) rfl Tryz.underlying22 rfl) ?_
    refine RL.val rfl (run_lss rfl rfl) ?_
    refine RL.nil ?_
    refine CW.condP rfl (fun h8 => ?_) (fun h8 => ?_)
    · refine CW.skip ?_
      refine CW.seq ?_
      refine CW.block ?_
      refine CW.seq ?_
      refine CW.region ?_
      refine RL.val rfl (run_fieldAddr Tryz.underlying24 rfl (off := 1) rfl Tryz.sizeOf22 (by decide) e1_6) ?_
      refine RL.val rfl (run_ld Tryz.underlying22 rfl rfl (hH6.cell (i := 0) rfl rfl)) ?_
      refine RL.val rfl (run_move e3_6) ?_
      refine RL.val rfl (run_indexAddrS (hs.facs.sl.hp hH6) Tryz.underlying22 Tryz.sizeOf44 rfl rfl (by omega)) ?_
      refine RL.val rfl (run_ldE (dv := fac0) facL_len (hs.facs.sl.hp hH6) Tryz.underlying44 rfl rfl rfl (by omega)) ?_
      refine RL.new rfl hH6 (f := fun b => (.pointer (some ⟨b, 0, none⟩))) (run_alloc zero_fac) ?_
      intro b11 w9 hH10
      refine RL.set hH10 (i := 0) rfl (run_stFac (hs.at (by omega) (by omega)) rfl rfl rfl (hH10.blk (i := 0) rfl)) ?_
      intro w12 hH13
      simp only [List.set_cons_zero, List.set_cons_succ] at hH13
      refine RL.nil ?_
      refine CW.seq ?_
      refine CW.seq ?_
      refine CW.region ?_
      refine RL.val rfl (run_fieldAddr Tryz.underlying44 rfl (off := 1) rfl Tryz.sizeOf39 (by decide) rfl) ?_
      refine RL.val rfl (run_ld Tryz.underlying39 rfl rfl (hH13.cell (i := 0) rfl rfl)) ?_
      refine RL.val rfl (run_lenSl ((hs.at (by omega) (by omega)).names.sl.hp hH13) rfl Tryz.underlying39 rfl) ?_
      refine RL.val rfl (run_gtr rfl rfl) ?_
      refine RL.nil ?_
      refine CW.condP rfl (fun h15 => ?_) (fun h15 => ?_)
      · refine CW.seq ?_
        refine CW.region ?_
        refine RL.val rfl (run_assign (v := B true) rfl) ?_
        refine RL.nil ?_
        refine CW.ret ?_
        refine outP1 Tryz.results5 (congrArg B ?_) hH13.below
        first | exact (big_1 (s := s.sh) (by omega)).symm | exact (big_2 (s := s.sh) (k := k) h0 (by omega) (by rw [sh_get]; first | exact bigN_1 (by show 70 < (s.facs.getD k.toNat fac0).names.length; omega) | exact bigN_2 i0 ‹_› (by show 40 < ((s.facs.getD k.toNat fac0).names.getD i.toNat tx0).size; omega))).symm | exact (big_no (s := s.sh) (k := k) (by omega) (by omega) fun j a b => by rw [sh_get]; exact hg j a b).symm
      · refine CW.skip ?_
        refine CW.seq ?_
        refine CW.region ?_
        refine RL.val rfl (run_assign (v := I 0) rfl) ?_
        refine RL.nil ?_
        refine CW.block ?_
        have hnb : (s.facs.getD k.toNat fac0).names.length ≤ 70 := by omega
        refine CW.loop (G := (Int)) (fun (i : Int) s' w' => (Fr [2, 5, 26, 27, 28, 29, 30, 31, 32, 33, 34, 35, 36, 37, 38, 39] _ s') ∧ (Hp w w' _) ∧ (s' 5 = I i) ∧ (0 ≤ i) ∧ (i ≤ (s.facs.getD k.toNat fac0).names.length) ∧ (∀ j : Int, 0 ≤ j → j < i → ¬ 40 < ((s.facs.getD k.toNat fac0).names.getD j.toNat tx0).size)) (fun (i : Int) => ((s.facs.getD k.toNat fac0).names.length - i).toNat) (0) ⟨Fr.refl _ _, hH13, rfl, (by omega), (by omega), fun j a b => absurd b (by omega)⟩ ?_
        rintro i sg16 w16 ⟨fr16, hH16, e5_16, i0, i1, hn⟩
        have e1_16 := (fr16 1 rfl).trans e1_6
        have e3_16 := (fr16 3 rfl).trans e3_6
        have e4_16 : sg16 4 = .pointer (some ⟨_, _, none⟩) := (fr16 4 rfl).trans rfl
        have e10_16 : sg16 10 = I _ := (fr16 10 rfl).trans rfl
        have e11_16 : sg16 11 = .pointer (some ⟨_, _, none⟩) := (fr16 11 rfl).trans rfl
        have e12_16 := (fr16 12 rfl).trans (by conv => lhs; whnf)
        have e13_16 : sg16 13 = I _ := (fr16 13 rfl).trans rfl
        have e14_16 : sg16 14 = B _ := (fr16 14 rfl).trans rfl
        have e17_16 : sg16 17 = .pointer (some ⟨_, _, none⟩) := (fr16 17 rfl).trans rfl
        have e18_16 := (fr16 18 rfl).trans (by conv => lhs; whnf)
        have e19_16 : sg16 19 = I _ := (fr16 19 rfl).trans rfl
        have e20_16 : sg16 20 = .pointer (some ⟨_, _, none⟩) := (fr16 20 rfl).trans rfl
        have e21_16 : sg16 21 = .agg _ := (fr16 21 rfl).trans rfl
        have e22_16 : sg16 22 = .pointer (some ⟨_, _, none⟩) := (fr16 22 rfl).trans rfl
        have e23_16 := (fr16 23 rfl).trans (by conv => lhs; whnf)
        have e24_16 : sg16 24 = I _ := (fr16 24 rfl).trans rfl
        have e25_16 : sg16 25 = B _ := (fr16 25 rfl).trans rfl
        refine CW.seq ?_
        refine CW.seq ?_
        refine CW.region ?_
        refine RL.val rfl (run_move e5_16) ?_
        refine RL.val rfl (run_fieldAddr Tryz.underlying44 rfl (off := 1) rfl Tryz.sizeOf39 (by decide) e4_16) ?_
        refine RL.val rfl (run_ld Tryz.underlying39 rfl rfl (hH16.cell (i := 0) rfl rfl)) ?_
        refine RL.val rfl (run_lenSl ((hs.at (by omega) (by omega)).names.sl.hp hH16) rfl Tryz.underlying39 rfl) ?_
        refine RL.val rfl (run_lss rfl rfl) ?_
        refine RL.nil ?_
        refine CW.condP rfl (fun h18 => ?_) (fun h18 => ?_)
        · refine CW.skip ?_
          refine CW.seq ?_
          refine CW.block ?_
          refine CW.seq ?_
          refine CW.region ?_
          refine RL.val rfl (run_fieldAddr Tryz.underlying44 rfl (off := 1) rfl Tryz.sizeOf39 (by decide) e4_16) ?_
          refine RL.val rfl (run_ld Tryz.underlying39 rfl rfl (hH16.cell (i := 0) rfl rfl)) ?_
          refine RL.val rfl (run_move e5_16) ?_
          refine RL.val rfl (run_indexAddrS ((hs.at (by omega) (by omega)).names.sl.hp hH16) Tryz.underlying39 Tryz.sizeOf9 rfl rfl (by omega)) ?_
          refine RL.val rfl (run_ld Tryz.underlying9 rfl rfl (((hs.at (by omega) (by omega)).names.sl.hp hH16).cell _ _ (txL_at (by omega)))) ?_
          refine RL.val rfl (run_lenStr rfl Tryz.underlying9 rfl) ?_
          refine RL.val rfl (run_gtr rfl rfl) ?_
          refine RL.nil ?_
          refine CW.condP rfl (fun h20 => ?_) (fun h20 => ?_)
          · refine CW.seq ?_
            refine CW.region ?_
            refine RL.val rfl (run_assign (v := B true) rfl) ?_
            refine RL.nil ?_
            refine CW.ret ?_
            refine outP1 Tryz.results5 (congrArg B ?_) hH16.below
            first | exact (big_1 (s := s.sh) (by omega)).symm | exact (big_2 (s := s.sh) (k := k) h0 (by omega) (by rw [sh_get]; first | exact bigN_1 (by show 70 < (s.facs.getD k.toNat fac0).names.length; omega) | exact bigN_2 i0 ‹_› (by show 40 < ((s.facs.getD k.toNat fac0).names.getD i.toNat tx0).size; omega))).symm | exact (big_no (s := s.sh) (k := k) (by omega) (by omega) fun j a b => by rw [sh_get]; exact hg j a b).symm
          · refine CW.skip ?_
            refine CW.region ?_
            refine RL.val rfl (run_move e5_16) ?_
            refine RL.val rfl (run_add rfl rfl (by omega)) ?_
            refine RL.val rfl (run_assign (v := I _) rfl) ?_
            refine RL.nil ?_
            refine ⟨i + 1, ?_, ((((((((((((((fr16.u rfl).u rfl).u rfl).u rfl).u rfl).u rfl).u rfl).u rfl).u rfl).u rfl).u rfl).u rfl).u rfl).u rfl).u rfl, hH16, (congrArg I (by first | rfl | omega)), ?_, ?_, ?_⟩
            · ((try dsimp only); omega)
            · omega
            · omega
            · exact fun j a b => if e : j = i then e ▸ (by omega) else hn j a (by omega)
        · refine CW.exit (id := 2) rfl ?_
          refine CW.region ?_
          refine RL.val rfl (run_move e3_16) ?_
          refine RL.val rfl (run_add rfl rfl (by omega)) ?_
          refine RL.val rfl (run_assign (v := I _) rfl) ?_
          refine RL.nil ?_
          refine ⟨k + 1, ?_, (((((((((((((((((((((((((fr6.u rfl).u rfl).u rfl).u rfl).u rfl).u rfl).u rfl).u rfl).u rfl).u rfl).u rfl).u rfl).u rfl).u rfl).u rfl).u rfl).t fr16 rfl)).u rfl).u rfl).u rfl).u rfl).u rfl).u rfl).u rfl).u rfl, (hH16.sub (.cons _ (List.Sublist.refl _))), (congrArg I (by first | rfl | omega)), ?_, ?_, ?_⟩
          · ((try dsimp only); omega)
          · omega
          · omega
          · exact fun j a b => if e : j = k then e ▸ bigN_no (by omega) ‹¬ i < _› hn else hg j a (by omega)
    · refine CW.exit (id := 0) rfl ?_
      refine CW.seq ?_
      refine CW.region ?_
      refine RL.val rfl (run_assign (v := B false) rfl) ?_
      refine RL.nil ?_
      refine CW.ret ?_
      refine outP1 Tryz.results5 (congrArg B ?_) hH6.below
      first | exact (big_1 (s := s.sh) (by omega)).symm | exact (big_2 (s := s.sh) (k := k) h0 (by omega) (by rw [sh_get]; first | exact bigN_1 (by show 70 < (s.facs.getD k.toNat fac0).names.length; omega) | exact bigN_2 i0 ‹_› (by show 40 < ((s.facs.getD k.toNat fac0).names.getD i.toNat tx0).size; omega))).symm | exact (big_no (s := s.sh) (k := k) (by omega) (by omega) fun j a b => by rw [sh_get]; exact hg j a b).symm

theorem c_shape_clone (K : Vu) (f : Fac) (hn : f.names.length ≤ 1000) (w : World) (hK : Le K (Kw w)) (hf : FacV K f) : Calls Tryz.prog 47 #[.agg (facC f)] w (PureF K (fun K' u => ∃ f' : Fac, u = .agg (facC f') ∧ f'.fc = f.fc ∧ FacV K' f') w) := by
  refine enter Tryz.func47 rfl Tryz.ntmps47 rfl ?_
  have hH := Hp.start w
  refine CW.seq ?_
  refine CW.region ?_
  refine RL.new rfl hH (f := fun b => (.pointer (some ⟨b, 0, none⟩))) (run_box (v := .agg _) rfl) ?_
  intro b3 w1 hH2
  refine RL.new rfl hH2 (f := fun b => (.pointer (some ⟨b, 0, none⟩))) (run_alloc zero_fac) ?_
  intro b6 w4 hH5
  refine RL.nil ?_
  refine CW.seq ?_
  refine CW.region ?_
  refine RL.new rfl hH5 (f := fun b => (.slice (some ⟨b, 0, none⟩) 0 0)) (run_mkE Tryz.underlying39 Tryz.sizeOf9) ?_
  intro b9 w7 hH8
  (try simp only [List.flatMap_cons, List.flatMap_nil, clI, clB, clS, clP, clL, clA, List.append_nil, List.cons_append, List.nil_append] at hH8)
  have hH10 := hH8.blkRow 0 1 rfl (by decide)
  refine RL.val rfl (run_fieldAddr Tryz.underlying44 rfl (off := 1) rfl Tryz.sizeOf39 (by decide) rfl) ?_
  refine RL.val rfl (run_ld Tryz.underlying39 rfl rfl (hH10.cell (i := 2) rfl rfl)) ?_
  refine RL.app rfl hH10 (i := 0) rfl ((hf.mono hK).names.sl.hp hH10) rfl rfl Tryz.underlying39 rfl rfl (size := 1) (bytes := 16) rfl rfl rfl (by decide) (by simp [Value.oneCell']) (by omega) (by simp only [maxLen]; omega) ?_
  intro v11 w12 hH13
  simp only [List.set_cons_zero, List.set_cons_succ] at hH13
  refine RL.val rfl (run_fieldAddr Tryz.underlying44 rfl (off := 1) rfl Tryz.sizeOf39 (by decide) rfl) ?_
  have hone := (row_cells (hH13.get (i := 0) rfl)).2
  refine RL.set hH13 (i := 2) rfl (run_stFac1 rfl rfl rfl (row_cells (hH13.get (i := 0) rfl)).1 hone (hH13.blk (i := 2) rfl)) ?_
  intro w14 hH15
  simp only [List.set_cons_zero, List.set_cons_succ] at hH15
  refine RL.nil ?_
  refine CW.seq ?_
  refine CW.region ?_
  refine RL.val rfl (run_ldFac Tryz.underlying44 rfl rfl rfl (hH15.blk (i := 2) rfl)) ?_
  refine RL.set hH15 (i := 1) rfl (run_stFacO (facC_one2 hf hone) rfl rfl rfl (hH15.blk (i := 1) rfl)) ?_
  intro w16 hH17
  simp only [List.set_cons_zero, List.set_cons_succ] at hH17
  refine RL.nil ?_
  refine CW.ret ?_
  obtain ⟨Zc, hz, hzv, -⟩ := hH17.frz K
  refine outCg Tryz.results47 rfl hH17 (i := 1) rfl Tryz.underlying44 rfl (by simp only [List.size_toArray, facL_len]; rfl) ⟨Zc, hz.sub (List.sublist_append_left _ _), _, rfl, rfl, ⟨?_⟩⟩
  simpa using hzv

theorem c_shape_One (K : Vu) (f : Fac) (hn : f.names.length ≤ 1000) (w : World) (hK : Le K (Kw w)) (hf : FacV K f) : Calls Tryz.prog 25 #[.agg (facC f)] w (PureF K (fun K' u => ∃ p : Shp, u = .agg (shpC p) ∧ p.sh = ⟨false, [f.fc]⟩ ∧ ShpV K' p) w) := by
  refine enter Tryz.func25 rfl Tryz.ntmps25 rfl ?_
  have hH := Hp.start w
  refine CW.seq ?_
  refine CW.region ?_
  refine RL.new rfl hH (f := fun b => (.pointer (some ⟨b, 0, none⟩))) (run_box (v := .agg _) rfl) ?_
  intro b3 w1 hH2
  refine RL.new rfl hH2 (f := fun b => (.pointer (some ⟨b, 0, none⟩))) (run_alloc Tryz.zeroValue24) ?_
  intro b6 w4 hH5
  refine RL.nil ?_
  refine CW.seq ?_
  refine CW.region ?_
  refine RL.val rfl (run_ldFac Tryz.underlying44 rfl rfl rfl (hH5.blk (i := 1) rfl)) ?_
  refine RL.callF rfl hH5 (c_shape_clone K f hn _ (hK.trans hH5.kw) hf) (run_call1 Tryz.call47 rfl) ?_
  intro v9 w10 Z12 hH11 hp13
  have hH14 : Hp _ w10 (_ :: _ :: Z12) := hH11.zin0 (L := [_, _])
  obtain ⟨f15, rfl, hfc16, hfv17⟩ := hp13
  refine RL.new rfl hH14 (f := fun b => (.slice (some ⟨b, 0, none⟩) 1 1)) (run_mkFacs Tryz.underlying22 rfl rfl rfl (l := [_]) rfl (by decide) (by decide) rfl) ?_
  intro b20 w18 hH19
  refine RL.val rfl (run_bld (vs := [(1, _)]) rfl (built_shp1 rfl)) ?_
  refine RL.set hH19 (i := 1) rfl (run_stW (c' := #[B false, .slice (some ⟨b20, 0, none⟩) 1 1]) rfl rfl rfl (by simp [Value.oneCell']) (hH19.blk (i := 1) rfl) rfl) ?_
  intro w21 hH22
  simp only [List.set_cons_zero, List.set_cons_succ] at hH22
  refine RL.nil ?_
  refine CW.ret ?_
  refine outCg Tryz.results25 rfl hH22 (i := 1) rfl Tryz.underlying24 rfl rfl ⟨_, hH22.sub (.cons_cons _ (.cons _ (.cons _ (.refl _)))), ⟨false, .slice (some ⟨b20, 0, none⟩) 1 1, [f15]⟩, rfl, by simp [Shp.sh, hfc16], ?_, ?_⟩
  · exact slv_blk (c := [f15].flatMap facL) (List.mem_cons_self ..) (flat_length facL_len _) (by simp [maxLen])
  · intro x hx; simp at hx; subst hx; exact hfv17.mono (Le.zz fun y hy => List.mem_cons_of_mem _ (by simpa using hy))

theorem c_shape_Product (K : Vu) (v : Value) (l : List Shp) (hl : l.length ≤ 1000) (hfn : ∀ s ∈ l, s.facs.length ≤ 1000) (hnn : ∀ s ∈ l, ∀ f ∈ s.facs, f.names.length ≤ 1000) (w : World) (hK : Le K (Kw w)) (hs : Sl w v 2 l.length (l.flatMap shpL)) (hv : ShpsV K l) : Calls Tryz.prog 24 #[v] w (PureF K (fun K' u => ∃ p : Shp, u = .agg (shpC p) ∧ p.sh = ⟨true, prodF l⟩ ∧ ShpV K' p) w) := by
  refine enter Tryz.func24 rfl Tryz.ntmps24 rfl ?_
  have hH := Hp.start w
  refine CW.seq ?_
  refine CW.region ?_
  refine RL.new rfl hH (f := fun b => (.pointer (some ⟨b, 0, none⟩))) (run_alloc Tryz.zeroValue24) ?_
  intro b3 w1 hH2
  refine RL.nil ?_
  refine CW.seq ?_
  refine CW.region ?_
  refine RL.val rfl (run_bld (vs := [(0, B true)]) rfl built_shp0) ?_
  refine RL.new rfl hH2 (f := fun b => (.pointer (some ⟨b, 0, none⟩))) (run_alloc Tryz.zeroValue24) ?_
  intro b6 w4 hH5
  refine RL.set hH5 (i := 0) rfl (run_stW (c' := #[B true, .slice none 0 0]) rfl rfl rfl (by simp [Value.oneCell']) (hH5.blk (i := 0) rfl) rfl) ?_
  intro w7 hH8
  simp only [List.set_cons_zero, List.set_cons_succ] at hH8
  have hH9 := hH8.nilRow 44 67
  refine RL.nil ?_
  refine CW.seq ?_
  refine CW.seq ?_
  refine CW.region ?_
  refine RL.val rfl (run_move (by conv => lhs; whnf)) ?_
  refine RL.val rfl (run_lenSl (hs.hp hH9) rfl Tryz.underlying64 rfl) ?_
  refine RL.val rfl (run_move (v := I 0) rfl) ?_
  refine RL.nil ?_
  refine CW.block ?_
  refine CW.loop (G := (Int) × (Value) × (List Fac) × (List Ent)) (fun (⟨k, fv0, fs, Z⟩ : (Int) × (Value) × (List Fac) × (List Ent)) s' w' => (Fr [5, 7, 11, 12, 13, 14, 15, 16, 17, 18, 19, 20, 21, 22, 23, 24, 25, 26, 27, 28, 29, 30] _ s') ∧ (Hp w w' (.row fv0 44 67 (fs.length) (fs.flatMap facL) :: .blk b6 (.cells (#[B true, fv0]) 24 (0, 0)) :: _ :: Z)) ∧ (s' 11 = I k) ∧ (0 ≤ k) ∧ (k ≤ l.length) ∧ (fs.map Fac.fc = prodF (l.take k.toNat)) ∧ (FacsV (Kz K Z) fs) ∧ ((fs.length : Int) ≤ 1000 * k)) (fun (⟨k, fv0, fs, Z⟩ : (Int) × (Value) × (List Fac) × (List Ent)) => (l.length - k).toNat) ((0, (.slice none 0 0 : Value), [], [])) ⟨Fr.refl _ _, hH9, rfl, (by omega), (by omega), rfl, FacsV.nil _, (by simp)⟩ ?_
  rintro ⟨k, fv0, fs, Z⟩ sg10 w10 ⟨fr10, hH10, e11_10, h0, hk, hm, hF, hb⟩
  have e2_10 : sg10 2 = .pointer (some ⟨_, _, none⟩) := (fr10 2 rfl).trans rfl
  have e3_10 : sg10 3 = .pointer (some ⟨_, _, none⟩) := (fr10 3 rfl).trans rfl
  have e9_10 := (fr10 9 rfl).trans (by conv => lhs; whnf)
  have e10_10 : sg10 10 = I _ := (fr10 10 rfl).trans rfl
  refine CW.seq ?_
  refine CW.region ?_
  refine RL.val rfl (run_lss e11_10 e10_10) ?_
  refine RL.nil ?_
  refine CW.seq ?_
  refine CW.condP rfl (fun h12 => ?_) (fun h12 => ?_)
  · refine CW.skip ?_
    refine CW.seq ?_
    refine CW.block ?_
    refine CW.seq ?_
    refine CW.region ?_
    refine RL.val rfl (run_indexAddrS (hs.hp hH10) Tryz.underlying64 Tryz.sizeOf24 e9_10 e11_10 (by omega)) ?_
    refine RL.val rfl (run_ldE (dv := shp0) shpL_len (hs.hp hH10) Tryz.underlying24 rfl rfl rfl (by omega)) ?_
    refine RL.new rfl hH10 (f := fun b => (.pointer (some ⟨b, 0, none⟩))) (run_alloc Tryz.zeroValue24) ?_
    intro b15 w13 hH14
    refine RL.set hH14 (i := 0) rfl (run_stShp ((hv.mono hK).at (by omega) (by omega)) rfl rfl rfl (hH14.blk (i := 0) rfl) rfl) ?_
    intro w16 hH17
    simp only [List.set_cons_zero, List.set_cons_succ] at hH17
    refine RL.nil ?_
    refine CW.seq ?_
    refine CW.region ?_
    refine RL.val rfl (run_fieldAddr Tryz.underlying24 rfl (off := 1) rfl Tryz.sizeOf22 (by decide) rfl) ?_
    refine RL.val rfl (run_ld Tryz.underlying22 rfl rfl (hH17.cell (i := 0) rfl rfl)) ?_
    refine RL.val rfl (run_lenSl (((hv.mono hK).at (by omega) (by omega)).facs.sl.hp hH17) rfl Tryz.underlying22 rfl) ?_
    refine RL.val rfl (run_move (v := I 0) rfl) ?_
    refine RL.nil ?_
    refine CW.block ?_
    have hfk := hfn _ (List.mem_of_getElem? (getD_at (d := shp0) h0 ‹k < l.length›))
    refine CW.loop (G := (Int) × (Value) × (List Fac) × (List Ent)) (fun (⟨i, fv1, gs, Z1⟩ : (Int) × (Value) × (List Fac) × (List Ent)) s' w' => (Fr [7, 18, 19, 20, 21, 22, 23, 24, 25, 26, 27, 28, 29] _ s') ∧ (Hp w w' (_ :: .row fv1 44 67 (gs.length) (gs.flatMap facL) :: .blk b6 (.cells (#[B true, fv1]) 24 (0, 0)) :: _ :: Z1)) ∧ (s' 18 = I i) ∧ (0 ≤ i) ∧ (i ≤ (l.getD k.toNat shp0).facs.length) ∧ (gs.map Fac.fc = fs.map Fac.fc ++ ((l.getD k.toNat shp0).facs.take i.toNat).map Fac.fc) ∧ (FacsV (Kz K Z1) gs) ∧ ((gs.length : Int) = fs.length + i)) (fun (⟨i, fv1, gs, Z1⟩ : (Int) × (Value) × (List Fac) × (List Ent)) => ((l.getD k.toNat shp0).facs.length - i).toNat) ((0, (fv0 : Value), fs, Z)) ⟨Fr.refl _ _, hH17, rfl, (by omega), (by omega), (by simp), hF, (by simp)⟩ ?_
    rintro ⟨i, fv1, gs, Z1⟩ sg18 w18 ⟨fr18, hH18, e18_18, i0, ik, hm1, hF1, hb1⟩
    have e2_18 := (fr18 2 rfl).trans e2_10
    have e3_18 := (fr18 3 rfl).trans e3_10
    have e5_18 : sg18 5 = .pointer (some ⟨_, _, none⟩) := (fr18 5 rfl).trans rfl
    have e9_18 := (fr18 9 rfl).trans e9_10
    have e10_18 := (fr18 10 rfl).trans e10_10
    have e11_18 := (fr18 11 rfl).trans e11_10
    have e12_18 := (fr18 12 rfl).trans (by conv => lhs; whnf)
    have e13_18 : sg18 13 = .pointer (some ⟨_, _, none⟩) := (fr18 13 rfl).trans rfl
    have e14_18 : sg18 14 = .agg _ := (fr18 14 rfl).trans rfl
    have e15_18 : sg18 15 = .pointer (some ⟨_, _, none⟩) := (fr18 15 rfl).trans rfl
    have e16_18 := (fr18 16 rfl).trans (by conv => lhs; whnf)
    have e17_18 : sg18 17 = I _ := (fr18 17 rfl).trans rfl
    refine CW.seq ?_
    refine CW.region ?_
    refine RL.val rfl (run_lss e18_18 e17_18) ?_
    refine RL.nil ?_
    refine CW.seq ?_
    refine CW.condP rfl (fun h20 => ?_) (fun h20 => ?_)
    · refine CW.skip ?_
      refine CW.seq ?_
      refine CW.block ?_
      refine CW.seq ?_
      refine CW.region ?_
      refine RL.val rfl (run_indexAddrS (((hv.mono hK).at (by omega) (by omega)).facs.sl.hp hH18) Tryz.underlying22 Tryz.sizeOf44 e16_18 e18_18 (by omega)) ?_
      refine RL.val rfl (run_ldE (dv := fac0) facL_len (((hv.mono hK).at (by omega) (by omega)).facs.sl.hp hH18) Tryz.underlying44 rfl rfl rfl (by omega)) ?_
      refine RL.new rfl hH18 (f := fun b => (.pointer (some ⟨b, 0, none⟩))) (run_alloc zero_fac) ?_
      intro b23 w21 hH22
      refine RL.set hH22 (i := 0) rfl (run_stFac (((hv.mono hK).at (by omega) (by omega)).at (by omega) (by omega)) rfl rfl rfl (hH22.blk (i := 0) rfl)) ?_
      intro w24 hH25
      simp only [List.set_cons_zero, List.set_cons_succ] at hH25
      refine RL.nil ?_
      refine CW.regionS (by kernel_rfl) hH25 (.cons_cons _ (.cons_cons _ (.cons _ (.cons _ (List.Sublist.refl _))))) ?_
      intro w26 hH27
      refine AN.take 0 rfl rfl (by kernel_rfl) (by kernel_rfl) (by kernel_rfl) (hH27.sub (.cons_cons _ (.cons_cons _ (.cons _ (.cons _ (List.Sublist.refl _)))))) (fun w hS => run_fieldAddr Tryz.underlying24 rfl (off := 1) rfl Tryz.sizeOf22 (by decide) e3_18) ?_
      refine AN.take 2 rfl rfl (by kernel_rfl) (by kernel_rfl) (by kernel_rfl) (hH27.sub (.cons_cons _ (.cons_cons _ (.cons _ (.cons _ (List.Sublist.refl _)))))) (fun w hS => run_ldFac Tryz.underlying44 rfl rfl rfl (hS.blk (i := 0) rfl)) ?_
      refine AN.two 1 3 (by kernel_rfl) ?_ ?_
      · refine AO.read rfl gnone rfl hH27 (.cons_cons _ (.cons_cons _ (.cons _ (.cons _ (List.Sublist.refl _))))) (run_ld Tryz.underlying22 rfl rfl (hH27.cell (i := 3) rfl rfl)) ?_
        refine AN.one 3 (by kernel_rfl) ?_
        refine AO.callF rfl gnone rfl hH27 (.cons_cons _ (.cons_cons _ (.cons _ (.cons _ (List.Sublist.refl _))))) (c_shape_clone K ((l.getD k.toNat shp0).facs.getD i.toNat fac0) (hnn _ (List.mem_of_getElem? (getD_at (d := shp0) h0 ‹k < l.length›)) _ (List.mem_of_getElem? (getD_at (d := fac0) i0 ‹_›))) _ (hK.trans hH27.kw) ((hv.at h0 ‹_›).at i0 ‹_›)) (run_call1 Tryz.call47 rfl) ?_
        intro v32 w33 Z35 hH34 hp36
        have hH37 : Hp _ w33 (_ :: _ :: _ :: _ :: _ :: (Z35 ++ Z1)) := hH34.zin (L := [_, _, _, _, _]) (L' := Z1)
        obtain ⟨f38, rfl, hfc39, hfv40⟩ := hp36
        refine AN.one 4 (by kernel_rfl) ?_
        refine AO.new rfl gnone rfl hH37 (.cons_cons _ (.cons_cons _ (.cons _ (.cons _ (.cons_cons _ (List.sublist_append_of_sublist_right (List.Sublist.refl _))))))) (f := fun b => .slice (some ⟨b, 0, none⟩) 1 1) (run_mkFacs Tryz.underlying22 rfl rfl rfl (l := [_]) rfl (by decide) (by decide) rfl) ?_
        intro b43 w41 hH42
        refine AN.one 5 (by kernel_rfl) ?_
        refine AO.app rfl gnone rfl hH42 (j := 3) rfl (fun _ => (.cons _ (.cons_cons _ (.cons_cons _ (.cons _ (.cons _ (.cons_cons _ (List.sublist_append_of_sublist_right (List.Sublist.refl _))))))))) (Hp.slFlat facL_len hH42 (i := 0) (l := [_]) rfl (by simp [maxLen])) rfl rfl Tryz.underlying22 rfl rfl (size := 67) (bytes := 552) rfl rfl rfl (by decide) (fac1_one hfv40) (by show (gs.length + 1) * _ ≤ _; omega) (by show gs.length + 1 ≤ _; simp only [maxLen]; omega) ?_
        intro v46 w44 hH45
        simp only [List.set_cons_zero, List.set_cons_succ] at hH45
        refine AN.take 6 rfl rfl (by kernel_rfl) (by kernel_rfl) (by kernel_rfl) (hH45.sub (.cons _ (.cons_cons _ (.cons_cons _ (.cons _ (.cons _ (.cons_cons _ (List.sublist_append_of_sublist_right (List.Sublist.refl _))))))))) (fun w hS => run_fieldAddr Tryz.underlying24 rfl (off := 1) rfl Tryz.sizeOf22 (by decide) e3_18) ?_
        refine AN.one 7 (by kernel_rfl) ?_
        refine AO.set rfl gnone hH45 (j := 4) rfl (.cons _ (.cons_cons _ (.cons_cons _ (.cons _ (.cons _ (.cons_cons _ (List.sublist_append_of_sublist_right (List.Sublist.refl _)))))))) (run_st rfl rfl (v := v46) rfl (row_cells (hH45.get (i := 3) rfl)).1 (row_cells (hH45.get (i := 3) rfl)).2 (hH45.blk (i := 4) rfl) (by simp)) ?_
        intro w49 hH50
        simp only [List.set_cons_zero, List.set_cons_succ] at hH50
        refine AN.done (by kernel_rfl) ?_
        refine CW.region ?_
        refine RL.val rfl (run_add e18_18 rfl (by omega)) ?_
        refine RL.val rfl (run_move (v := I _) rfl) ?_
        refine RL.nil ?_
        refine ⟨(i + 1, v46, (gs ++ [f38]), (Z35 ++ Z1)), ?_, ((((((((((((fr18.u rfl).u rfl).u rfl).u rfl).u rfl).u rfl).u rfl).u rfl).u rfl).u rfl).u rfl).u rfl).u rfl, (Hp.conv (hH50.sub (.cons _ (.cons _ (List.Sublist.refl _)))) (by first | rfl | simp)), (congrArg I (by first | rfl | omega)), ?_, ?_, ?_, ?_, ?_⟩
        · ((try dsimp only); omega)
        · omega
        · omega
        · rw [facs_next i0 ‹_›, List.map_append, hm1, List.append_assoc]; simp only [List.map_cons, List.map_nil]; rw [hfc39]
        · exact (hF1.mono (Le.zz fun y hy => List.mem_append_right _ hy)).snoc (hfv40.mono (Le.zz fun y hy => List.mem_append_left _ hy))
        · simp only [List.length_append, List.length_singleton]; omega
      · refine AO.callF rfl gnone rfl hH27 (.cons_cons _ (.cons_cons _ (.cons _ (.cons _ (List.Sublist.refl _))))) (c_shape_clone K ((l.getD k.toNat shp0).facs.getD i.toNat fac0) (hnn _ (List.mem_of_getElem? (getD_at (d := shp0) h0 ‹k < l.length›)) _ (List.mem_of_getElem? (getD_at (d := fac0) i0 ‹_›))) _ (hK.trans hH27.kw) ((hv.at h0 ‹_›).at i0 ‹_›)) (run_call1 Tryz.call47 rfl) ?_
        intro v53 w54 Z56 hH55 hp57
        have hH58 : Hp _ w54 (_ :: _ :: _ :: _ :: _ :: (Z56 ++ Z1)) := hH55.zin (L := [_, _, _, _, _]) (L' := Z1)
        obtain ⟨f59, rfl, hfc60, hfv61⟩ := hp57
        refine AN.two 1 4 (by kernel_rfl) ?_ ?_
        · refine AO.read rfl gnone rfl hH58 (.cons_cons _ (.cons_cons _ (.cons _ (.cons _ (.cons_cons _ (List.sublist_append_of_sublist_right (List.Sublist.refl _))))))) (run_ld Tryz.underlying22 rfl rfl (hH58.cell (i := 3) rfl rfl)) ?_
          refine AN.one 4 (by kernel_rfl) ?_
          refine AO.new rfl gnone rfl hH58 (.cons_cons _ (.cons_cons _ (.cons _ (.cons _ (.cons_cons _ (List.sublist_append_of_sublist_right (List.Sublist.refl _))))))) (f := fun b => .slice (some ⟨b, 0, none⟩) 1 1) (run_mkFacs Tryz.underlying22 rfl rfl rfl (l := [_]) rfl (by decide) (by decide) rfl) ?_
          intro b66 w64 hH65
          refine AN.one 5 (by kernel_rfl) ?_
          refine AO.app rfl gnone rfl hH65 (j := 3) rfl (fun _ => (.cons _ (.cons_cons _ (.cons_cons _ (.cons _ (.cons _ (.cons_cons _ (List.sublist_append_of_sublist_right (List.Sublist.refl _))))))))) (Hp.slFlat facL_len hH65 (i := 0) (l := [_]) rfl (by simp [maxLen])) rfl rfl Tryz.underlying22 rfl rfl (size := 67) (bytes := 552) rfl rfl rfl (by decide) (fac1_one hfv61) (by show (gs.length + 1) * _ ≤ _; omega) (by show gs.length + 1 ≤ _; simp only [maxLen]; omega) ?_
          intro v69 w67 hH68
          simp only [List.set_cons_zero, List.set_cons_succ] at hH68
          refine AN.take 6 rfl rfl (by kernel_rfl) (by kernel_rfl) (by kernel_rfl) (hH68.sub (.cons _ (.cons_cons _ (.cons_cons _ (.cons _ (.cons _ (.cons_cons _ (List.sublist_append_of_sublist_right (List.Sublist.refl _))))))))) (fun w hS => run_fieldAddr Tryz.underlying24 rfl (off := 1) rfl Tryz.sizeOf22 (by decide) e3_18) ?_
          refine AN.one 7 (by kernel_rfl) ?_
          refine AO.set rfl gnone hH68 (j := 4) rfl (.cons _ (.cons_cons _ (.cons_cons _ (.cons _ (.cons _ (.cons_cons _ (List.sublist_append_of_sublist_right (List.Sublist.refl _)))))))) (run_st rfl rfl (v := v69) rfl (row_cells (hH68.get (i := 3) rfl)).1 (row_cells (hH68.get (i := 3) rfl)).2 (hH68.blk (i := 4) rfl) (by simp)) ?_
          intro w72 hH73
          simp only [List.set_cons_zero, List.set_cons_succ] at hH73
          refine AN.done (by kernel_rfl) ?_
          refine CW.region ?_
          refine RL.val rfl (run_add e18_18 rfl (by omega)) ?_
          refine RL.val rfl (run_move (v := I _) rfl) ?_
          refine RL.nil ?_
          refine ⟨(i + 1, v69, (gs ++ [f59]), (Z56 ++ Z1)), ?_, ((((((((((((fr18.u rfl).u rfl).u rfl).u rfl).u rfl).u rfl).u rfl).u rfl).u rfl).u rfl).u rfl).u rfl).u rfl, (Hp.conv (hH73.sub (.cons _ (.cons _ (List.Sublist.refl _)))) (by first | rfl | simp)), (congrArg I (by first | rfl | omega)), ?_, ?_, ?_, ?_, ?_⟩
          · ((try dsimp only); omega)
          · omega
          · omega
          · rw [facs_next i0 ‹_›, List.map_append, hm1, List.append_assoc]; simp only [List.map_cons, List.map_nil]; rw [hfc60]
          · exact (hF1.mono (Le.zz fun y hy => List.mem_append_right _ hy)).snoc (hfv61.mono (Le.zz fun y hy => List.mem_append_left _ hy))
          · simp only [List.length_append, List.length_singleton]; omega
        · refine AO.new rfl gnone rfl hH58 (.cons_cons _ (.cons_cons _ (.cons _ (.cons _ (.cons_cons _ (List.sublist_append_of_sublist_right (List.Sublist.refl _))))))) (f := fun b => .slice (some ⟨b, 0, none⟩) 1 1) (run_mkFacs Tryz.underlying22 rfl rfl rfl (l := [_]) rfl (by decide) (by decide) rfl) ?_
          intro b76 w74 hH75
          refine AN.one 1 (by kernel_rfl) ?_
          refine AO.read rfl gnone rfl hH75 (.cons _ (.cons_cons _ (.cons_cons _ (.cons _ (.cons _ (.cons_cons _ (List.sublist_append_of_sublist_right (List.Sublist.refl _)))))))) (run_ld Tryz.underlying22 rfl rfl (hH75.cell (i := 4) rfl rfl)) ?_
          refine AN.one 5 (by kernel_rfl) ?_
          refine AO.app rfl gnone rfl hH75 (j := 3) rfl (fun _ => (.cons _ (.cons_cons _ (.cons_cons _ (.cons _ (.cons _ (.cons_cons _ (List.sublist_append_of_sublist_right (List.Sublist.refl _))))))))) (Hp.slFlat facL_len hH75 (i := 0) (l := [_]) rfl (by simp [maxLen])) rfl rfl Tryz.underlying22 rfl rfl (size := 67) (bytes := 552) rfl rfl rfl (by decide) (fac1_one hfv61) (by show (gs.length + 1) * _ ≤ _; omega) (by show gs.length + 1 ≤ _; simp only [maxLen]; omega) ?_
          intro v81 w79 hH80
          simp only [List.set_cons_zero, List.set_cons_succ] at hH80
          refine AN.take 6 rfl rfl (by kernel_rfl) (by kernel_rfl) (by kernel_rfl) (hH80.sub (.cons _ (.cons_cons _ (.cons_cons _ (.cons _ (.cons _ (.cons_cons _ (List.sublist_append_of_sublist_right (List.Sublist.refl _))))))))) (fun w hS => run_fieldAddr Tryz.underlying24 rfl (off := 1) rfl Tryz.sizeOf22 (by decide) e3_18) ?_
          refine AN.one 7 (by kernel_rfl) ?_
          refine AO.set rfl gnone hH80 (j := 4) rfl (.cons _ (.cons_cons _ (.cons_cons _ (.cons _ (.cons _ (.cons_cons _ (List.sublist_append_of_sublist_right (List.Sublist.refl _)))))))) (run_st rfl rfl (v := v81) rfl (row_cells (hH80.get (i := 3) rfl)).1 (row_cells (hH80.get (i := 3) rfl)).2 (hH80.blk (i := 4) rfl) (by simp)) ?_
          intro w84 hH85
          simp only [List.set_cons_zero, List.set_cons_succ] at hH85
          refine AN.done (by kernel_rfl) ?_
          refine CW.region ?_
          refine RL.val rfl (run_add e18_18 rfl (by omega)) ?_
          refine RL.val rfl (run_move (v := I _) rfl) ?_
          refine RL.nil ?_
          refine ⟨(i + 1, v81, (gs ++ [f59]), (Z56 ++ Z1)), ?_, ((((((((((((fr18.u rfl).u rfl).u rfl).u rfl).u rfl).u rfl).u rfl).u rfl).u rfl).u rfl).u rfl).u rfl).u rfl, (Hp.conv (hH85.sub (.cons _ (.cons _ (List.Sublist.refl _)))) (by first | rfl | simp)), (congrArg I (by first | rfl | omega)), ?_, ?_, ?_, ?_, ?_⟩
          · ((try dsimp only); omega)
          · omega
          · omega
          · rw [facs_next i0 ‹_›, List.map_append, hm1, List.append_assoc]; simp only [List.map_cons, List.map_nil]; rw [hfc60]
          · exact (hF1.mono (Le.zz fun y hy => List.mem_append_right _ hy)).snoc (hfv61.mono (Le.zz fun y hy => List.mem_append_left _ hy))
          · simp only [List.length_append, List.length_singleton]; omega
    · refine CW.exit (id := 2) rfl ?_
      refine CW.region ?_
      refine RL.val rfl (run_add e11_18 rfl (by omega)) ?_
      refine RL.val rfl (run_move (v := I _) rfl) ?_
      refine RL.nil ?_
      refine ⟨(k + 1, fv1, gs, Z1), ?_, ((((((((((((fr10.u rfl).u rfl).u rfl).u rfl).u rfl).u rfl).u rfl).u rfl).t fr18 rfl)).u rfl).u rfl).u rfl, (Hp.conv (hH18.sub (.cons _ (List.Sublist.refl _))) (by first | rfl | simp)), (congrArg I (by first | rfl | omega)), ?_, ?_, ?_, ?_, ?_⟩
      · ((try dsimp only); omega)
      · omega
      · omega
      · rw [prod_next h0 ‹_›, ← hm, hm1, List.take_of_length_le (by omega)]; rfl
      · exact hF1
      · omega
  · refine CW.exit (id := 0) rfl ?_
    refine CW.seq ?_
    refine CW.region ?_
    refine RL.val rfl (run_ldA (cs := [B _, _]) Tryz.underlying24 rfl rfl e3_10 (rangeAt_cells (hH10.blk (i := 1) rfl))) ?_
    refine RL.set hH10 (i := 2) rfl (run_stW (c' := #[B true, fv0]) rfl e2_10 rfl (one_two (row_cells (hH10.get (i := 0) rfl)).2) (hH10.blk (i := 2) rfl) rfl) ?_
    intro w86 hH87
    simp only [List.set_cons_zero, List.set_cons_succ] at hH87
    refine RL.nil ?_
    refine CW.ret ?_
    obtain ⟨Zr, hz, hzv, -⟩ := hH87.frz K
    refine outCg (i := Zr.length + 1) Tryz.results24 e2_10 hz (app_get (i := 1) rfl) Tryz.underlying24 rfl rfl ⟨Zr ++ Z, hz.sub (List.Sublist.append (.refl _) (.cons _ (.cons _ (.refl _)))), ⟨true, fv0, fs⟩, rfl, ?_, ?_, ?_⟩
    · rw [Shp.sh, hm, prod_all ‹_›]
    · exact hzv.mono (Le.zz fun y hy => List.mem_append_left _ hy)
    · exact (hF.mono (Le.zz fun y hy => List.mem_append_right _ hy)).each

theorem c_clearancelaw07_alive  (w : World) (hT : Tab w) : Calls Tryz.prog 6 #[] w (Pure (B true) w) := by
  refine enter Tryz.func6 rfl Tryz.ntmps6 rfl ?_
  have hH := Hp.start w
  refine CW.seq ?_
  refine CW.region ?_
  refine RL.val rfl (run_assign (v := B false) rfl) ?_
  refine RL.nil ?_
  refine CW.seq ?_
  refine CW.region ?_
  refine RL.new rfl hH (f := fun b => (.slice (some ⟨b, 0, none⟩) 3 3)) (run_mkL Tryz.underlying39 rfl rfl (sz := 1) (vs := [.string ⟨#[97]⟩, .string ⟨#[98]⟩, .string ⟨#[99]⟩]) rfl rfl (by decide) (by decide) rfl rfl) ?_
  intro b3 w1 hH2
  (try simp only [List.flatMap_cons, List.flatMap_nil, clI, clB, clS, clP, clL, clA, List.append_nil, List.cons_append, List.nil_append] at hH2)
  refine RL.val rfl (run_bld (vs := [(0, I 1), (1, _)]) rfl (built_fac 1 _ 3 exN1)) ?_
  refine RL.callF rfl hH2 (c_shape_One (Kz (Kw w) [.blk b3 (.cells (txL exN1).toArray 9 (0, 0))]) ⟨1, .slice (some ⟨b3, 0, none⟩) 3 3, exN1, Rl.none⟩ (show List.length exN1 ≤ 1000 by decide) _ (hH2.kz (Le.refl _) fun x hx => by rw [List.mem_singleton.1 hx]; exact List.mem_of_getElem? (i := 0) rfl) ⟨slv_blk (c := txL exN1) (List.mem_singleton.2 rfl) rfl (by decide)⟩) (run_call1 Tryz.call25 rfl) ?_
  intro v6 w7 Z9 hH8 hp10
  have hH11 : Hp _ w7 (_ :: Z9) := hH8.zin0 (L := [_])
  obtain ⟨p12, rfl, psh13, pv14⟩ := hp10
  refine RL.new rfl hH11 (f := fun b => (.slice (some ⟨b, 0, none⟩) 2 2)) (run_mkL Tryz.underlying39 rfl rfl (sz := 1) (vs := [.string ⟨#[120]⟩, .string ⟨#[121]⟩]) rfl rfl (by decide) (by decide) rfl rfl) ?_
  intro b17 w15 hH16
  (try simp only [List.flatMap_cons, List.flatMap_nil, clI, clB, clS, clP, clL, clA, List.append_nil, List.cons_append, List.nil_append] at hH16)
  refine RL.val rfl (run_bld (vs := [(0, I 2), (1, _)]) rfl (built_fac 2 _ 2 exN2)) ?_
  refine RL.callF rfl hH16 (c_shape_One (Kz (Kw w) [.blk b17 (.cells (txL exN2).toArray 9 (0, 0))]) ⟨2, .slice (some ⟨b17, 0, none⟩) 2 2, exN2, Rl.none⟩ (show List.length exN2 ≤ 1000 by decide) _ (hH16.kz (Le.refl _) fun x hx => by rw [List.mem_singleton.1 hx]; exact List.mem_of_getElem? (i := 0) rfl) ⟨slv_blk (c := txL exN2) (List.mem_singleton.2 rfl) rfl (by decide)⟩) (run_call1 Tryz.call25 rfl) ?_
  intro v20 w21 Z23 hH22 hp24
  have hH25 : Hp _ w21 (_ :: _ :: (Z23 ++ Z9)) := hH22.zin (L := [_, _]) (L' := Z9)
  obtain ⟨p26, rfl, psh27, pv28⟩ := hp24
  refine RL.new rfl hH25 (f := fun b => (.slice (some ⟨b, 0, none⟩) 2 2)) (run_mkShps Tryz.underlying64 rfl rfl rfl (l := [p12, p26]) rfl (by decide) (by decide) rfl) ?_
  intro b31 w29 hH30
  have f1 := one_facs psh13
  have f2 := one_facs psh27
  refine RL.callF rfl hH30 (c_shape_Product _ (.slice (some ⟨b31, 0, none⟩) 2 2) [p12, p26] (show 2 ≤ 1000 by decide) (al_fn f1 f2) (al_nn f1 f2 (show List.length exN1 ≤ 1000 by decide) (show List.length exN2 ≤ 1000 by decide)) _ (hH30.kz (Le.refl _) fun x hx => hx) (Hp.slFlat shpL_len hH30 (i := 0) (l := [p12, p26]) rfl (show 2 ≤ maxLen by decide)) (al_v (pv14.mono (Le.kk.trans (Le.zz fun x hx => (List.mem_append.1 hx).elim (fun hx => (List.mem_cons_of_mem _ (List.mem_cons_of_mem _ (List.mem_cons_of_mem _ (List.mem_append_right _ hx))))) (fun hx => by rw [List.mem_singleton.1 hx]; exact List.mem_of_getElem? (i := 2) rfl)))) (pv28.mono (Le.kk.trans (Le.zz fun x hx => (List.mem_append.1 hx).elim (fun hx => (List.mem_cons_of_mem _ (List.mem_cons_of_mem _ (List.mem_cons_of_mem _ (List.mem_append_left _ hx))))) (fun hx => by rw [List.mem_singleton.1 hx]; exact List.mem_of_getElem? (i := 1) rfl)))))) (run_call1 Tryz.call24 rfl) ?_
  intro v34 w35 Z37 hH36 hp38
  have hH39 : Hp _ w35 (_ :: _ :: _ :: (Z37 ++ (Z23 ++ Z9))) := hH36.zin (L := [_, _, _]) (L' := (Z23 ++ Z9))
  obtain ⟨p40, rfl, psh41, pv42⟩ := hp38
  have hp3 := pv42.mono (Le.kk.trans (Le.zz (Z' := _ :: _ :: _ :: (Z37 ++ (Z23 ++ Z9))) fun x hx => (List.mem_append.1 hx).elim (fun hx => (List.mem_cons_of_mem _ (List.mem_cons_of_mem _ (List.mem_cons_of_mem _ (List.mem_append_left _ hx))))) (fun hx => mem_in _ (L := [_, _, _]) hx)))
  have hex := psh41.trans (ex_prod psh13 psh27)
  refine RL.new rfl hH39 (f := fun b => (.pointer (some ⟨b, 0, none⟩))) (run_alloc Tryz.zeroValue24) ?_
  intro b45 w43 hH44
  refine RL.set hH44 (i := 0) rfl (run_stShp hp3 rfl rfl rfl (hH44.blk (i := 0) rfl) rfl) ?_
  intro w46 hH47
  simp only [List.set_cons_zero, List.set_cons_succ] at hH47
  refine RL.nil ?_
  refine CW.seq ?_
  refine CW.region ?_
  refine RL.val rfl (run_ldA (cs := [B _, _]) Tryz.underlying24 rfl rfl rfl (rangeAt_cells (hH47.blk (i := 0) rfl))) ?_
  refine RL.callP rfl hH47 (c_shape_Right _  _ (hp3.mono (hH47.kz (Le.refl _) fun x hx => List.mem_cons_of_mem _ hx)) (hT.hp hH47)) (run_call1 Tryz.call7 rfl) ?_
  intro w48 hH49
  refine RL.val rfl (run_move (v := B _) rfl) ?_
  refine RL.gT rfl (bR (c := true) ((by rw [hex]; exact ex_R))) ?_
  refine RL.val rfl (run_ldA (cs := [B _, _]) Tryz.underlying24 rfl rfl rfl (rangeAt_cells (hH49.blk (i := 0) rfl))) ?_
  refine RL.gT rfl (bR (c := true) ((by rw [hex]; exact ex_R))) ?_
  refine RL.callP rfl hH49 (c_shape_Height _  _ (hp3.mono (hH49.kz (Le.refl _) fun x hx => List.mem_cons_of_mem _ hx)) (hT.hp hH49)) (run_call1 Tryz.call14 rfl) ?_
  intro w51 hH52
  refine RL.gT rfl (bR (c := true) ((by rw [hex]; exact ex_R))) ?_
  refine RL.val rfl (run_eql rfl rfl) ?_
  refine RL.val rfl (run_pickT (bR (c := true) ((by rw [hex]; exact ex_R))) (v := B _) rfl) ?_
  refine RL.val rfl (run_move (v := B _) rfl) ?_
  refine RL.gT rfl (bT ((by rw [hex]; exact ex_H))) ?_
  refine RL.val rfl (run_ldA (cs := [B _, _]) Tryz.underlying24 rfl rfl rfl (rangeAt_cells (hH52.blk (i := 0) rfl))) ?_
  refine RL.gT rfl (bT ((by rw [hex]; exact ex_H))) ?_
  refine RL.callP rfl hH52 (c_shape_Top _  _ (hp3.mono (hH52.kz (Le.refl _) fun x hx => List.mem_cons_of_mem _ hx)) (hT.hp hH52)) (run_call1 Tryz.call13 rfl) ?_
  intro w54 hH55
  refine RL.gT rfl (bT ((by rw [hex]; exact ex_H))) ?_
  refine RL.val rfl (run_bld (vs := [(0, U 3#64), (1, U 3#64)]) rfl (built_el2 _ _)) ?_
  refine RL.gT rfl (bT ((by rw [hex]; exact ex_H))) ?_
  refine RL.val rfl (run_eqlEl elT_fact rfl rfl) ?_
  refine RL.val rfl (run_pickT (bT ((by rw [hex]; exact ex_H))) (v := B _) rfl) ?_
  refine RL.val rfl (run_move (v := B _) rfl) ?_
  refine RL.gT rfl (bT ((by rw [hex]; exact ex_T))) ?_
  refine RL.val rfl (run_ldA (cs := [B _, _]) Tryz.underlying24 rfl rfl rfl (rangeAt_cells (hH55.blk (i := 0) rfl))) ?_
  refine RL.gT rfl (bT ((by rw [hex]; exact ex_T))) ?_
  refine RL.val rfl (run_bld (vs := [(0, U 1#64), (1, U 2#64)]) rfl (built_el2 _ _)) ?_
  refine RL.gT rfl (bT ((by rw [hex]; exact ex_T))) ?_
  refine RL.callP rfl hH55 (c_shape_Fits _ _  _ (hp3.mono (hH55.kz (Le.refl _) fun x hx => List.mem_cons_of_mem _ hx)) (hT.hp hH55)) (run_call2 Tryz.call16 rfl rfl) ?_
  intro w57 hH58
  refine RL.val rfl (run_pickT (bT ((by rw [hex]; exact ex_T))) (v := B _) rfl) ?_
  refine RL.val rfl (run_assign (v := B _) rfl) ?_
  refine RL.nil ?_
  refine CW.ret ?_
  refine outP1 Tryz.results6 (congrArg B ?_) hH58.below
  (rw [hex]; exact ex_F)

theorem c_clearancelaw07_ShapeTells (a b : Shp) (w : World) (ha : ShpV (Kw w) a) (hb : ShpV (Kw w) b) (hT : Tab w) : Calls Tryz.prog 3 #[.agg (shpC a), .agg (shpC b)] w (Pure (B true) w) := by
  refine enter Tryz.func3 rfl Tryz.ntmps3 rfl ?_
  have hH := Hp.start w
  refine CW.seq ?_
  refine CW.region ?_
  refine RL.new rfl hH (f := fun b => (.pointer (some ⟨b, 0, none⟩))) (run_box (v := .agg _) rfl) ?_
  intro b3 w1 hH2
  refine RL.new rfl hH2 (f := fun b => (.pointer (some ⟨b, 0, none⟩))) (run_box (v := .agg _) rfl) ?_
  intro b6 w4 hH5
  refine RL.val rfl (run_assign (v := B false) rfl) ?_
  refine RL.nil ?_
  refine CW.seq ?_
  refine CW.seq ?_
  refine CW.region ?_
  refine RL.val rfl (run_ldA (cs := [B _, _]) Tryz.underlying24 rfl rfl rfl (rangeAt_cells (hH5.blk (i := 1) rfl))) ?_
  refine RL.callP rfl hH5 (c_clearancelaw07_Big _  _ (ha.mono hH5.kw)) (run_call1 Tryz.call5 rfl) ?_
  intro w7 hH8
  refine RL.val rfl (run_move (v := B _) rfl) ?_
  refine RL.split (dj := 7) rfl (fun h10 => ?_) (fun h10 => ?_)
  · refine RL.gF rfl rfl (bR (c := true) h10) rfl ?_
    refine RL.gF rfl rfl (bR (c := true) h10) rfl ?_
    refine RL.val rfl (run_pickT (bR (c := true) h10) (v := B true) rfl) ?_
    refine RL.nil ?_
    refine CW.condT rfl ?_
    refine CW.seq ?_
    refine CW.region ?_
    refine RL.callP rfl hH8 (c_clearancelaw07_alive   _ (hT.hp hH8)) (run_call0 Tryz.call6) ?_
    intro w11 hH12
    refine RL.val rfl (run_assign (v := B _) rfl) ?_
    refine RL.nil ?_
    refine CW.ret ?_
    refine outP1 Tryz.results3 (congrArg B ?_) hH12.below
    rfl
  · refine RL.gT rfl (bR (c := false) h10) ?_
    refine RL.val rfl (run_ldA (cs := [B _, _]) Tryz.underlying24 rfl rfl rfl (rangeAt_cells (hH8.blk (i := 0) rfl))) ?_
    refine RL.gT rfl (bR (c := false) h10) ?_
    refine RL.callP rfl hH8 (c_clearancelaw07_Big _  _ (hb.mono hH8.kw)) (run_call1 Tryz.call5 rfl) ?_
    intro w14 hH15
    refine RL.val rfl (run_pickF (bR (c := false) h10) (v := B _) rfl) ?_
    refine RL.nil ?_
    refine CW.cond rfl (fun h17 => ?_) (fun h17 => ?_)
    · refine CW.seq ?_
      refine CW.region ?_
      refine RL.callP rfl hH15 (c_clearancelaw07_alive   _ (hT.hp hH15)) (run_call0 Tryz.call6) ?_
      intro w18 hH19
      refine RL.val rfl (run_assign (v := B _) rfl) ?_
      refine RL.nil ?_
      refine CW.ret ?_
      refine outP1 Tryz.results3 (congrArg B ?_) hH19.below
      rfl
    · refine CW.skip ?_
      refine CW.seq ?_
      refine CW.regionD (by kernel_rfl) hH15 ?_
      intro w21 hH22
      refine AN.take 0 rfl rfl (by kernel_rfl) (by kernel_rfl) (by kernel_rfl) (hH22.sub (List.Sublist.refl _)) (fun w hS => run_ldA (cs := [B _, _]) Tryz.underlying24 rfl rfl rfl (rangeAt_cells (hS.blk (i := 1) rfl))) ?_
      refine AN.take 2 rfl rfl (by kernel_rfl) (by kernel_rfl) (by kernel_rfl) (hH22.sub (List.Sublist.refl _)) (fun w hS => run_ldA (cs := [B _, _]) Tryz.underlying24 rfl rfl rfl (rangeAt_cells (hS.blk (i := 1) rfl))) ?_
      refine AN.one 1 (by kernel_rfl) ?_
      refine AO.callP rfl gnone rfl hH22 (List.Sublist.refl _) (c_shape_Right _  _ (ha.mono hH22.kw) (hT.hp hH22)) (run_call1 Tryz.call7 rfl) ?_
      intro w23 hH24
      refine AN.one 3 (by kernel_rfl) ?_
      refine AO.callP rfl gnone rfl hH24 (List.Sublist.refl _) (c_clearanceref07_Right _  _ (ha.mono hH24.kw)) (run_call1 Tryz.call8 rfl) ?_
      intro w26 hH27
      refine AN.take 4 rfl rfl (by kernel_rfl) (by kernel_rfl) (by kernel_rfl) (hH27.sub (List.Sublist.refl _)) (fun w hS => run_eqlB Tryz.underlying4 rfl rfl) ?_
      refine AN.take 5 rfl rfl (by kernel_rfl) (by kernel_rfl) (by kernel_rfl) (hH27.sub (List.Sublist.refl _)) (fun w hS => run_move (v := B _) rfl) ?_
      refine AN.takeG 6 rfl rfl (bR (c := true) (beq_self_eq_true _)) rfl (by kernel_rfl) (by kernel_rfl) (by kernel_rfl) (hH27.sub (List.Sublist.refl _)) (fun w hS => run_ldA (cs := [B _, _]) Tryz.underlying24 rfl rfl rfl (rangeAt_cells (hS.blk (i := 1) rfl))) ?_
      refine AN.takeG 7 rfl rfl (bR (c := true) (beq_self_eq_true _)) rfl (by kernel_rfl) (by kernel_rfl) (by kernel_rfl) (hH27.sub (List.Sublist.refl _)) (fun w hS => run_ldA (cs := [B _, _]) Tryz.underlying24 rfl rfl rfl (rangeAt_cells (hS.blk (i := 0) rfl))) ?_
      refine AN.takeG 9 rfl rfl (bR (c := true) (beq_self_eq_true _)) rfl (by kernel_rfl) (by kernel_rfl) (by kernel_rfl) (hH27.sub (List.Sublist.refl _)) (fun w hS => run_ldA (cs := [B _, _]) Tryz.underlying24 rfl rfl rfl (rangeAt_cells (hS.blk (i := 1) rfl))) ?_
      refine AN.takeG 10 rfl rfl (bR (c := true) (beq_self_eq_true _)) rfl (by kernel_rfl) (by kernel_rfl) (by kernel_rfl) (hH27.sub (List.Sublist.refl _)) (fun w hS => run_ldA (cs := [B _, _]) Tryz.underlying24 rfl rfl rfl (rangeAt_cells (hS.blk (i := 0) rfl))) ?_
      refine AN.one 8 (by kernel_rfl) ?_
      refine AO.callP rfl (gsome rfl (bR (c := true) (beq_self_eq_true _))) rfl hH27 (List.Sublist.refl _) (c_shape_Same _ _  _ (ha.mono hH27.kw) (hb.mono hH27.kw)) (run_call2 Tryz.call9 rfl rfl) ?_
      intro w30 hH31
      refine AN.one 11 (by kernel_rfl) ?_
      refine AO.callP rfl (gsome rfl (bR (c := true) (beq_self_eq_true _))) rfl hH31 (List.Sublist.refl _) (c_clearanceref07_Same _ _  _ (ha.mono hH31.kw) (hb.mono hH31.kw)) (run_call2 Tryz.call10 rfl rfl) ?_
      intro w33 hH34
      refine AN.takeG 12 rfl rfl (bR (c := true) (beq_self_eq_true _)) rfl (by kernel_rfl) (by kernel_rfl) (by kernel_rfl) (hH34.sub (List.Sublist.refl _)) (fun w hS => run_eqlB Tryz.underlying4 rfl rfl) ?_
      refine AN.take 13 rfl rfl (by kernel_rfl) (by kernel_rfl) (by kernel_rfl) (hH34.sub (List.Sublist.refl _)) (fun w hS => run_pickT (bR (c := true) (beq_self_eq_true _)) (v := B _) rfl) ?_
      refine AN.take 14 rfl rfl (by kernel_rfl) (by kernel_rfl) (by kernel_rfl) (hH34.sub (List.Sublist.refl _)) (fun w hS => run_move (v := B _) rfl) ?_
      refine AN.takeG 15 rfl rfl (bR (c := true) (beq_self_eq_true _)) rfl (by kernel_rfl) (by kernel_rfl) (by kernel_rfl) (hH34.sub (List.Sublist.refl _)) (fun w hS => run_ldA (cs := [B _, _]) Tryz.underlying24 rfl rfl rfl (rangeAt_cells (hS.blk (i := 1) rfl))) ?_
      refine AN.takeG 17 rfl rfl (bR (c := true) (beq_self_eq_true _)) rfl (by kernel_rfl) (by kernel_rfl) (by kernel_rfl) (hH34.sub (List.Sublist.refl _)) (fun w hS => run_ldA (cs := [B _, _]) Tryz.underlying24 rfl rfl rfl (rangeAt_cells (hS.blk (i := 1) rfl))) ?_
      refine AN.one 16 (by kernel_rfl) ?_
      refine AO.callP rfl (gsome rfl (bR (c := true) (beq_self_eq_true _))) rfl hH34 (List.Sublist.refl _) (c_shape_Bottom _  _ (ha.mono hH34.kw) (hT.hp hH34)) (run_call1 Tryz.call11 rfl) ?_
      intro w37 hH38
      refine AN.one 18 (by kernel_rfl) ?_
      refine AO.callP rfl (gsome rfl (bR (c := true) (beq_self_eq_true _))) rfl hH38 (List.Sublist.refl _) (c_clearanceref07_End _ _  _ (ha.mono hH38.kw)) (run_call2 Tryz.call12 rfl (show _ = B false from rfl)) ?_
      intro w39 hH40
      refine AN.takeG 19 rfl rfl (bR (c := true) (beq_self_eq_true _)) rfl (by kernel_rfl) (by kernel_rfl) (by kernel_rfl) (hH40.sub (List.Sublist.refl _)) (fun w hS => run_eqlEl elT_fact rfl rfl) ?_
      refine AN.take 20 rfl rfl (by kernel_rfl) (by kernel_rfl) (by kernel_rfl) (hH40.sub (List.Sublist.refl _)) (fun w hS => run_pickT (bR (c := true) (beq_self_eq_true _)) (v := B _) rfl) ?_
      refine AN.take 21 rfl rfl (by kernel_rfl) (by kernel_rfl) (by kernel_rfl) (hH40.sub (List.Sublist.refl _)) (fun w hS => run_move (v := B _) rfl) ?_
      refine AN.takeG 22 rfl rfl (bT (fun i hi => rfl)) rfl (by kernel_rfl) (by kernel_rfl) (by kernel_rfl) (hH40.sub (List.Sublist.refl _)) (fun w hS => run_ldA (cs := [B _, _]) Tryz.underlying24 rfl rfl rfl (rangeAt_cells (hS.blk (i := 1) rfl))) ?_
      refine AN.takeG 24 rfl rfl (bT (fun i hi => rfl)) rfl (by kernel_rfl) (by kernel_rfl) (by kernel_rfl) (hH40.sub (List.Sublist.refl _)) (fun w hS => run_ldA (cs := [B _, _]) Tryz.underlying24 rfl rfl rfl (rangeAt_cells (hS.blk (i := 1) rfl))) ?_
      refine AN.one 23 (by kernel_rfl) ?_
      refine AO.callP rfl (gsome rfl (bT (fun i hi => rfl))) rfl hH40 (List.Sublist.refl _) (c_shape_Top _  _ (ha.mono hH40.kw) (hT.hp hH40)) (run_call1 Tryz.call13 rfl) ?_
      intro w42 hH43
      refine AN.one 25 (by kernel_rfl) ?_
      refine AO.callP rfl (gsome rfl (bT (fun i hi => rfl))) rfl hH43 (List.Sublist.refl _) (c_clearanceref07_End _ _  _ (ha.mono hH43.kw)) (run_call2 Tryz.call12 rfl (show _ = B true from rfl)) ?_
      intro w44 hH45
      refine AN.takeG 26 rfl rfl (bT (fun i hi => rfl)) rfl (by kernel_rfl) (by kernel_rfl) (by kernel_rfl) (hH45.sub (List.Sublist.refl _)) (fun w hS => run_eqlEl elT_fact rfl rfl) ?_
      refine AN.take 27 rfl rfl (by kernel_rfl) (by kernel_rfl) (by kernel_rfl) (hH45.sub (List.Sublist.refl _)) (fun w hS => run_pickT (bT (fun i hi => rfl)) (v := B _) rfl) ?_
      refine AN.take 28 rfl rfl (by kernel_rfl) (by kernel_rfl) (by kernel_rfl) (hH45.sub (List.Sublist.refl _)) (fun w hS => run_move (v := B _) rfl) ?_
      refine AN.takeG 29 rfl rfl (bT (fun i hi => rfl)) rfl (by kernel_rfl) (by kernel_rfl) (by kernel_rfl) (hH45.sub (List.Sublist.refl _)) (fun w hS => run_ldA (cs := [B _, _]) Tryz.underlying24 rfl rfl rfl (rangeAt_cells (hS.blk (i := 1) rfl))) ?_
      refine AN.takeG 31 rfl rfl (bT (fun i hi => rfl)) rfl (by kernel_rfl) (by kernel_rfl) (by kernel_rfl) (hH45.sub (List.Sublist.refl _)) (fun w hS => run_ldA (cs := [B _, _]) Tryz.underlying24 rfl rfl rfl (rangeAt_cells (hS.blk (i := 1) rfl))) ?_
      refine AN.one 30 (by kernel_rfl) ?_
      refine AO.callP rfl (gsome rfl (bT (fun i hi => rfl))) rfl hH45 (List.Sublist.refl _) (c_shape_Height _  _ (ha.mono hH45.kw) (hT.hp hH45)) (run_call1 Tryz.call14 rfl) ?_
      intro w47 hH48
      refine AN.one 32 (by kernel_rfl) ?_
      refine AO.callP rfl (gsome rfl (bT (fun i hi => rfl))) rfl hH48 (List.Sublist.refl _) (c_clearanceref07_Height _  _ (ha.mono hH48.kw)) (run_call1 Tryz.call15 rfl) ?_
      intro w49 hH50
      refine AN.takeG 33 rfl rfl (bT (fun i hi => rfl)) rfl (by kernel_rfl) (by kernel_rfl) (by kernel_rfl) (hH50.sub (List.Sublist.refl _)) (fun w hS => run_eql rfl rfl) ?_
      refine AN.take 34 rfl rfl (by kernel_rfl) (by kernel_rfl) (by kernel_rfl) (hH50.sub (List.Sublist.refl _)) (fun w hS => run_pickT (bT (fun i hi => rfl)) (v := B _) rfl) ?_
      refine AN.take 35 rfl rfl (by kernel_rfl) (by kernel_rfl) (by kernel_rfl) (hH50.sub (List.Sublist.refl _)) (fun w hS => run_move (v := B _) rfl) ?_
      refine AN.one 36 (by kernel_rfl) ?_
      refine AO.callP rfl (gsome rfl (bT (rfl))) rfl hH50 (List.Sublist.refl _) (c_clearancelaw07_alive   _ (hT.hp hH50)) (run_call0 Tryz.call6) ?_
      intro w52 hH53
      refine AN.take 37 rfl rfl (by kernel_rfl) (by kernel_rfl) (by kernel_rfl) (hH53.sub (List.Sublist.refl _)) (fun w hS => run_pickT (bT (rfl)) (v := B _) rfl) ?_
      refine AN.take 38 rfl rfl (by kernel_rfl) (by kernel_rfl) (by kernel_rfl) (hH53.sub (List.Sublist.refl _)) (fun w hS => run_assign (v := B _) rfl) ?_
      refine AN.done (by kernel_rfl) ?_
      refine CW.ret ?_
      refine outP1 Tryz.results3 (congrArg B ?_) hH53.below
      rfl

theorem c_clearancelaw07_ShapeOps (s : Shp) (a b : El) (w : World) (hs : ShpV (Kw w) s) (hT : Tab w) : Calls Tryz.prog 4 #[.agg (shpC s), .agg (elC a), .agg (elC b)] w (Pure (B true) w) := by
  refine enter Tryz.func4 rfl Tryz.ntmps4 rfl ?_
  have hH := Hp.start w
  refine CW.seq ?_
  refine CW.region ?_
  refine RL.new rfl hH (f := fun b => (.pointer (some ⟨b, 0, none⟩))) (run_box (v := .agg _) rfl) ?_
  intro b3 w1 hH2
  refine RL.new rfl hH2 (f := fun b => (.pointer (some ⟨b, 0, none⟩))) (run_box (v := .agg _) rfl) ?_
  intro b6 w4 hH5
  refine RL.new rfl hH5 (f := fun b => (.pointer (some ⟨b, 0, none⟩))) (run_box (v := .agg _) rfl) ?_
  intro b9 w7 hH8
  refine RL.val rfl (run_assign (v := B false) rfl) ?_
  refine RL.nil ?_
  refine CW.seq ?_
  refine CW.seq ?_
  refine CW.region ?_
  refine RL.val rfl (run_ldA (cs := [B _, _]) Tryz.underlying24 rfl rfl rfl (rangeAt_cells (hH8.blk (i := 2) rfl))) ?_
  refine RL.callP rfl hH8 (c_clearancelaw07_Big _  _ (hs.mono hH8.kw)) (run_call1 Tryz.call5 rfl) ?_
  intro w10 hH11
  refine RL.nil ?_
  refine CW.cond rfl (fun h13 => ?_) (fun h13 => ?_)
  · refine CW.seq ?_
    refine CW.region ?_
    refine RL.callP rfl hH11 (c_clearancelaw07_alive   _ (hT.hp hH11)) (run_call0 Tryz.call6) ?_
    intro w14 hH15
    refine RL.val rfl (run_assign (v := B _) rfl) ?_
    refine RL.nil ?_
    refine CW.ret ?_
    refine outP1 Tryz.results4 (congrArg B ?_) hH15.below
    rfl
  · refine CW.skip ?_
    refine CW.seq ?_
    refine CW.regionD (by kernel_rfl) hH11 ?_
    intro w17 hH18
    refine AN.take 0 rfl rfl (by kernel_rfl) (by kernel_rfl) (by kernel_rfl) (hH18.sub (List.Sublist.refl _)) (fun w hS => run_ldA (cs := [B _, _]) Tryz.underlying24 rfl rfl rfl (rangeAt_cells (hS.blk (i := 2) rfl))) ?_
    refine AN.take 1 rfl rfl (by kernel_rfl) (by kernel_rfl) (by kernel_rfl) (hH18.sub (List.Sublist.refl _)) (fun w hS => run_ldEl Tryz.underlying30 rfl rfl rfl (hS.blk (i := 1) rfl)) ?_
    refine AN.take 3 rfl rfl (by kernel_rfl) (by kernel_rfl) (by kernel_rfl) (hH18.sub (List.Sublist.refl _)) (fun w hS => run_ldA (cs := [B _, _]) Tryz.underlying24 rfl rfl rfl (rangeAt_cells (hS.blk (i := 2) rfl))) ?_
    refine AN.take 4 rfl rfl (by kernel_rfl) (by kernel_rfl) (by kernel_rfl) (hH18.sub (List.Sublist.refl _)) (fun w hS => run_ldEl Tryz.underlying30 rfl rfl rfl (hS.blk (i := 1) rfl)) ?_
    refine AN.one 2 (by kernel_rfl) ?_
    refine AO.callP rfl gnone rfl hH18 (List.Sublist.refl _) (c_shape_Fits _ _  _ (hs.mono hH18.kw) (hT.hp hH18)) (run_call2 Tryz.call16 rfl rfl) ?_
    intro w19 hH20
    refine AN.one 5 (by kernel_rfl) ?_
    refine AO.callP rfl gnone rfl hH20 (List.Sublist.refl _) (c_clearanceref07_Fits _ _  _ (hs.mono hH20.kw)) (run_call2 Tryz.call17 rfl rfl) ?_
    intro w22 hH23
    refine AN.take 6 rfl rfl (by kernel_rfl) (by kernel_rfl) (by kernel_rfl) (hH23.sub (List.Sublist.refl _)) (fun w hS => run_eqlB Tryz.underlying4 rfl rfl) ?_
    refine AN.take 7 rfl rfl (by kernel_rfl) (by kernel_rfl) (by kernel_rfl) (hH23.sub (List.Sublist.refl _)) (fun w hS => run_move (v := B _) rfl) ?_
    refine AN.takeG 8 rfl rfl (bR (c := true) (beq_self_eq_true _)) rfl (by kernel_rfl) (by kernel_rfl) (by kernel_rfl) (hH23.sub (List.Sublist.refl _)) (fun w hS => run_ldEl Tryz.underlying30 rfl rfl rfl (hS.blk (i := 1) rfl)) ?_
    refine AN.takeG 9 rfl rfl (bR (c := true) (beq_self_eq_true _)) rfl (by kernel_rfl) (by kernel_rfl) (by kernel_rfl) (hH23.sub (List.Sublist.refl _)) (fun w hS => run_ldEl Tryz.underlying30 rfl rfl rfl (hS.blk (i := 0) rfl)) ?_
    refine AN.takeG 11 rfl rfl (bR (c := true) (beq_self_eq_true _)) rfl (by kernel_rfl) (by kernel_rfl) (by kernel_rfl) (hH23.sub (List.Sublist.refl _)) (fun w hS => run_ldEl Tryz.underlying30 rfl rfl rfl (hS.blk (i := 1) rfl)) ?_
    refine AN.takeG 12 rfl rfl (bR (c := true) (beq_self_eq_true _)) rfl (by kernel_rfl) (by kernel_rfl) (by kernel_rfl) (hH23.sub (List.Sublist.refl _)) (fun w hS => run_ldEl Tryz.underlying30 rfl rfl rfl (hS.blk (i := 0) rfl)) ?_
    refine AN.one 10 (by kernel_rfl) ?_
    refine AO.callP rfl (gsome rfl (bR (c := true) (beq_self_eq_true _))) rfl hH23 (List.Sublist.refl _) (c_shape_Leq _ _  _) (run_call2 Tryz.call18 rfl rfl) ?_
    intro w26 hH27
    refine AN.one 13 (by kernel_rfl) ?_
    refine AO.callP rfl (gsome rfl (bR (c := true) (beq_self_eq_true _))) rfl hH27 (List.Sublist.refl _) (c_clearanceref07_Leq _ _  _) (run_call2 Tryz.call19 rfl rfl) ?_
    intro w29 hH30
    refine AN.takeG 14 rfl rfl (bR (c := true) (beq_self_eq_true _)) rfl (by kernel_rfl) (by kernel_rfl) (by kernel_rfl) (hH30.sub (List.Sublist.refl _)) (fun w hS => run_eqlB Tryz.underlying4 rfl rfl) ?_
    refine AN.take 15 rfl rfl (by kernel_rfl) (by kernel_rfl) (by kernel_rfl) (hH30.sub (List.Sublist.refl _)) (fun w hS => run_pickT (bR (c := true) (beq_self_eq_true _)) (v := B _) rfl) ?_
    refine AN.take 16 rfl rfl (by kernel_rfl) (by kernel_rfl) (by kernel_rfl) (hH30.sub (List.Sublist.refl _)) (fun w hS => run_move (v := B _) rfl) ?_
    refine AN.takeG 17 rfl rfl (bR (c := true) (beq_self_eq_true _)) rfl (by kernel_rfl) (by kernel_rfl) (by kernel_rfl) (hH30.sub (List.Sublist.refl _)) (fun w hS => run_ldA (cs := [B _, _]) Tryz.underlying24 rfl rfl rfl (rangeAt_cells (hS.blk (i := 2) rfl))) ?_
    refine AN.takeG 18 rfl rfl (bR (c := true) (beq_self_eq_true _)) rfl (by kernel_rfl) (by kernel_rfl) (by kernel_rfl) (hH30.sub (List.Sublist.refl _)) (fun w hS => run_ldEl Tryz.underlying30 rfl rfl rfl (hS.blk (i := 1) rfl)) ?_
    refine AN.takeG 19 rfl rfl (bR (c := true) (beq_self_eq_true _)) rfl (by kernel_rfl) (by kernel_rfl) (by kernel_rfl) (hH30.sub (List.Sublist.refl _)) (fun w hS => run_ldEl Tryz.underlying30 rfl rfl rfl (hS.blk (i := 0) rfl)) ?_
    refine AN.takeG 21 rfl rfl (bR (c := true) (beq_self_eq_true _)) rfl (by kernel_rfl) (by kernel_rfl) (by kernel_rfl) (hH30.sub (List.Sublist.refl _)) (fun w hS => run_ldA (cs := [B _, _]) Tryz.underlying24 rfl rfl rfl (rangeAt_cells (hS.blk (i := 2) rfl))) ?_
    refine AN.takeG 22 rfl rfl (bR (c := true) (beq_self_eq_true _)) rfl (by kernel_rfl) (by kernel_rfl) (by kernel_rfl) (hH30.sub (List.Sublist.refl _)) (fun w hS => run_ldEl Tryz.underlying30 rfl rfl rfl (hS.blk (i := 1) rfl)) ?_
    refine AN.takeG 23 rfl rfl (bR (c := true) (beq_self_eq_true _)) rfl (by kernel_rfl) (by kernel_rfl) (by kernel_rfl) (hH30.sub (List.Sublist.refl _)) (fun w hS => run_ldEl Tryz.underlying30 rfl rfl rfl (hS.blk (i := 0) rfl)) ?_
    refine AN.one 20 (by kernel_rfl) ?_
    refine AO.callP rfl (gsome rfl (bR (c := true) (beq_self_eq_true _))) rfl hH30 (List.Sublist.refl _) (c_shape_Join _ _ _  _ (hs.mono hH30.kw) (hT.hp hH30)) (run_call3 Tryz.call20 rfl rfl rfl) ?_
    intro w33 hH34
    refine AN.one 24 (by kernel_rfl) ?_
    refine AO.callP rfl (gsome rfl (bR (c := true) (beq_self_eq_true _))) rfl hH34 (List.Sublist.refl _) (c_clearanceref07_Join _ _ _  _ (hs.mono hH34.kw)) (run_call3 Tryz.call21 rfl rfl rfl) ?_
    intro w35 hH36
    refine AN.takeG 25 rfl rfl (bR (c := true) (beq_self_eq_true _)) rfl (by kernel_rfl) (by kernel_rfl) (by kernel_rfl) (hH36.sub (List.Sublist.refl _)) (fun w hS => run_eqlEl elT_fact rfl rfl) ?_
    refine AN.take 26 rfl rfl (by kernel_rfl) (by kernel_rfl) (by kernel_rfl) (hH36.sub (List.Sublist.refl _)) (fun w hS => run_pickT (bR (c := true) (beq_self_eq_true _)) (v := B _) rfl) ?_
    refine AN.take 27 rfl rfl (by kernel_rfl) (by kernel_rfl) (by kernel_rfl) (hH36.sub (List.Sublist.refl _)) (fun w hS => run_move (v := B _) rfl) ?_
    refine AN.takeG 28 rfl rfl (bT (fun i hi => rfl)) rfl (by kernel_rfl) (by kernel_rfl) (by kernel_rfl) (hH36.sub (List.Sublist.refl _)) (fun w hS => run_ldEl Tryz.underlying30 rfl rfl rfl (hS.blk (i := 1) rfl)) ?_
    refine AN.takeG 29 rfl rfl (bT (fun i hi => rfl)) rfl (by kernel_rfl) (by kernel_rfl) (by kernel_rfl) (hH36.sub (List.Sublist.refl _)) (fun w hS => run_ldEl Tryz.underlying30 rfl rfl rfl (hS.blk (i := 0) rfl)) ?_
    refine AN.takeG 31 rfl rfl (bT (fun i hi => rfl)) rfl (by kernel_rfl) (by kernel_rfl) (by kernel_rfl) (hH36.sub (List.Sublist.refl _)) (fun w hS => run_ldEl Tryz.underlying30 rfl rfl rfl (hS.blk (i := 1) rfl)) ?_
    refine AN.takeG 32 rfl rfl (bT (fun i hi => rfl)) rfl (by kernel_rfl) (by kernel_rfl) (by kernel_rfl) (hH36.sub (List.Sublist.refl _)) (fun w hS => run_ldEl Tryz.underlying30 rfl rfl rfl (hS.blk (i := 0) rfl)) ?_
    refine AN.one 30 (by kernel_rfl) ?_
    refine AO.callP rfl (gsome rfl (bT (fun i hi => rfl))) rfl hH36 (List.Sublist.refl _) (c_shape_Meet _ _  _) (run_call2 Tryz.call22 rfl rfl) ?_
    intro w38 hH39
    refine AN.one 33 (by kernel_rfl) ?_
    refine AO.callP rfl (gsome rfl (bT (fun i hi => rfl))) rfl hH39 (List.Sublist.refl _) (c_clearanceref07_Meet _ _  _) (run_call2 Tryz.call23 rfl rfl) ?_
    intro w40 hH41
    refine AN.takeG 34 rfl rfl (bT (fun i hi => rfl)) rfl (by kernel_rfl) (by kernel_rfl) (by kernel_rfl) (hH41.sub (List.Sublist.refl _)) (fun w hS => run_eqlEl elT_fact rfl rfl) ?_
    refine AN.take 35 rfl rfl (by kernel_rfl) (by kernel_rfl) (by kernel_rfl) (hH41.sub (List.Sublist.refl _)) (fun w hS => run_pickT (bT (fun i hi => rfl)) (v := B _) rfl) ?_
    refine AN.take 36 rfl rfl (by kernel_rfl) (by kernel_rfl) (by kernel_rfl) (hH41.sub (List.Sublist.refl _)) (fun w hS => run_move (v := B _) rfl) ?_
    refine AN.one 37 (by kernel_rfl) ?_
    refine AO.callP rfl (gsome rfl (bT (fun i hi => rfl))) rfl hH41 (List.Sublist.refl _) (c_clearancelaw07_alive   _ (hT.hp hH41)) (run_call0 Tryz.call6) ?_
    intro w43 hH44
    refine AN.take 38 rfl rfl (by kernel_rfl) (by kernel_rfl) (by kernel_rfl) (hH44.sub (List.Sublist.refl _)) (fun w hS => run_pickT (bT (fun i hi => rfl)) (v := B _) rfl) ?_
    refine AN.take 39 rfl rfl (by kernel_rfl) (by kernel_rfl) (by kernel_rfl) (hH44.sub (List.Sublist.refl _)) (fun w hS => run_assign (v := B _) rfl) ?_
    refine AN.done (by kernel_rfl) ?_
    refine CW.ret ?_
    refine outP1 Tryz.results4 (congrArg B ?_) hH44.below
    rfl

end Go.Proofs.YtgmdjomdmfcpnaaGreatDoor.W
