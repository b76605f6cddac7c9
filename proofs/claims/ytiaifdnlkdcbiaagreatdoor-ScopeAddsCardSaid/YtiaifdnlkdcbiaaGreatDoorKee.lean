/-
  The laws of scopes, plainly.
-/
import Derived.Test.YtiaifdnlkdcbiaaGreatDoorAlv
namespace Go.Proofs.YtiaifdnlkdcbiaaGreatDoor.E
open Go Go.RowKit Go.Proofs.YtiaifdnlkdcbiaaGreatDoor.M
set_option linter.unusedVariables false
theorem sc_lats {q r : Scp} {k : Int} (h : q.lats.map LatR.pl = r.lats.map LatR.pl) (h0 : 0 ≤ k) (h1 : k < q.lats.length) : (q.lats.getD k.toNat lat0).pl = (r.lats.getD k.toNat lat0).pl := by
  have h2 : k.toNat < q.lats.length := by omega
  have hl : q.lats.length = r.lats.length := by have := congrArg List.length h; simpa using this
  have h3 := congrArg (fun l => l[k.toNat]?) h
  simp only [List.getElem?_map] at h3
  rw [List.getElem?_eq_getElem h2, List.getElem?_eq_getElem (by omega)] at h3
  rw [List.getD_eq_getElem?_getD, List.getD_eq_getElem?_getD, List.getElem?_eq_getElem h2, List.getElem?_eq_getElem (by omega)]
  simpa using h3
theorem same_sc {q r : Scp} (h : q.sc = r.sc) : sameS2 q r = true := by
  have h1 : q.lats.map LatR.pl = r.lats.map LatR.pl := congrArg Sc.lats h
  have h2 : q.vars = r.vars := congrArg Sc.vars h
  have hl : q.lats.length = r.lats.length := by have := congrArg List.length h1; simpa using this
  refine same_yes ⟨hl, by rw [h2]⟩ (k := q.lats.length) (by omega) (fun i i0 i1 => ?_) (j := q.vars.length) (by omega) fun i _ _ => by rw [h2]
  have := sc_lats h1 i0 i1
  simp only [LatR.pl, Prod.mk.injEq] at this
  exact ⟨this.1, by rw [this.2]; exact sameS_refl _⟩
theorem sm_of {s : Scp} {c : CmdR} (h : bigScp s = false) (hb : c.names.length ≤ 100 ∧ c.pairs.length ≤ 100) : Sm s c := by
  rw [bigScp, Bool.or_eq_false_iff, Bool.or_eq_false_iff, decide_eq_false_iff_not, List.any_eq_false, List.any_eq_false] at h
  have hl : ∀ a ∈ s.lats, bigS a.shp.sh = false := fun a ha => by
    have := h.1.2 a ha
    rw [Bool.not_eq_true, bigL, Bool.or_eq_false_iff] at this
    exact this.1
  exact ⟨hb.1, hb.2, by omega, by omega, fun a ha => by have := (big_shp (hl a ha)).1; omega, fun a ha f hf => by have := (big_shp (hl a ha)).2 f hf; omega⟩
end Go.Proofs.YtiaifdnlkdcbiaaGreatDoor.E
