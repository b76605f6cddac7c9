/-
  Forests and the relation of what was joined.
-/
import Derived.Test.YtphknfjaellkjaaFov
import Derived.Test.YtphknfjaellkjaaFsw
import Derived.Test.YtphknfjaellkjaaCov
namespace Go.Proofs.Ytphknfjaellkjaa.E
open Go Go.RowKit Go.Proofs.Ytphknfjaellkjaa.M
set_option linter.unusedVariables false
set_option linter.unusedSimpArgs false
theorem run_remK {P : Program} {σ : Env} {w : World} {dst : Option Tmp} {ty t u : TypeId} {pos : String} {aft : Array Edge} {g : Option (Nat × Bool)} {x y : Operand} {k : IntKind} {a b : Int} (hx : ev σ x = .int k a) (hy : ev σ y = .int k b) (ha : 0 ≤ a) (hb : 0 < b) :
    (execOp (ev σ) ⟨dst, .binOp .rem t x y u, ty, pos, aft, g⟩).run P w = .ok (.value (.int k (a % b))) w := by
  have h1 : a.tmod b = a % b := Int.tmod_eq_emod_of_nonneg ha
  simp [execOp, hx, hy, eqGuard, binOp, Op.intDiv, h1, show b ≠ 0 by omega]
end Go.Proofs.Ytphknfjaellkjaa.E
namespace Go.Proofs.Ytphknfjaellkjaa.M
open Go
set_option linter.unusedVariables false
set_option linter.unusedSimpArgs false
def orB (r : Rl) (i j : Int) : Rl := r.put i.toNat (r.up i.toNat ||| (1#64 <<< (BitVec.ofInt 64 j).toNat))
def inPr (n : Int) (a b : Int) : Prop := 0 ≤ a ∧ 0 ≤ b ∧ a < n ∧ b < n
instance (n a b : Int) : Decidable (inPr n a b) := inferInstanceAs (Decidable (_ ∧ _))
section
variable {r : Rl} {cs : List (List Nat)} {a b : Int}
theorem orB_n : (orB r a b).n = r.n := rfl
theorem orB_has (ha : isP r a = true) (hb : isP r b = true) (x y : Int) : hasR (orB r a b) x y = true ↔ hasR r x y = true ∨ (x = a ∧ y = b) := by
  have e : orB r a b = r.put a.toNat (withB (r.up a.toNat) b) := by unfold orB withB; rw [if_pos (isP_in hb)]
  rw [e, put_has ha]
  simp only [Bool.or_eq_true, Bool.and_eq_true, decide_eq_true_eq]
  constructor
  · rintro (h | ⟨⟨h, _⟩, _⟩)
    · exact .inl h
    · exact .inr h
  · rintro (h | ⟨rfl, rfl⟩)
    · exact .inl h
    · exact .inr ⟨⟨⟨rfl, rfl⟩, ha⟩, hb⟩
theorem orB2_has (ha : isP r a = true) (hb : isP r b = true) (x y : Int) : hasR (orB (orB r a b) b a) x y = true ↔ hasR r x y = true ∨ (x = a ∧ y = b) ∨ (x = b ∧ y = a) := by
  rw [orB_has (by rw [isP_n (b := r) orB_n]; exact hb) (by rw [isP_n (b := r) orB_n]; exact ha), orB_has ha hb, or_assoc]
theorem RelC.start {n : Int} (h : 0 ≤ n ∧ n ≤ 60) : RelC ⟨n, fun _ => 0#64⟩ (List.range n.toNat) := by
  have hp : pts ⟨n, fun _ => 0#64⟩ = n := by unfold pts; show max 0 (min n 64) = n; omega
  have h0 : ∀ i j : Int, hasR ⟨n, fun _ => 0#64⟩ i j = false := fun i j => by simp [hasR]
  refine ⟨by rw [hp, List.length_range]; omega, fun i j e => ?_, fun i j e => ?_, fun i hi => ?_⟩
  · rw [h0] at e; cases e
  · rw [h0] at e; cases e
  · rw [List.length_range] at hi
    have : clF (List.range n.toNat) i = i := by unfold clF; rw [List.getD_eq_getElem?_getD, List.getElem?_range hi]; rfl
    rw [this]
    exact clo_refl (by rw [hp]; omega)
theorem un_skip (h : ¬ inPr (nowC cs).length a b) : unionC cs a b = (cs, false) := by
  refine union_no fun q => h ?_
  obtain ⟨q1, q2, -⟩ := q
  exact ⟨q1.1, q2.1, q1.2, q2.2⟩
theorem RelC.skip (h : RelC r (nowC cs)) (hn : ¬ inPr (nowC cs).length a b) : RelC r (nowC (unionC cs a b).1) := by rw [un_skip hn]; exact h
theorem RelC.step (h : RelC r (nowC cs)) (hf : ∃ nd, Fo nd (nowC cs)) (hin : inPr (nowC cs).length a b) : RelC (orB (orB r a b) b a) (nowC (unionC cs a b).1) := by
  obtain ⟨nd, hf⟩ := hf
  have h1 : inPr (nowC cs).length a b := hin
  obtain ⟨i1, i2, i3, i4⟩ := h1
  have hn := h.n
  have pa : isP r a = true := isP_iff.2 ⟨i1, by omega⟩
  have pb : isP r b = true := isP_iff.2 ⟨i2, by omega⟩
  have hj := h.join (q := orB (orB r a b) b a) (x := a.toNat) (y := b.toNat) hf (by omega) (by omega) rfl fun x y => by
    rw [orB2_has pa pb, Int.toNat_of_nonneg i1, Int.toNat_of_nonneg i2]
  by_cases e : clF (nowC cs) a.toNat = clF (nowC cs) b.toNat
  · rw [union_no fun q => q.2.2 e]
    rw [e, join_self] at hj; exact hj
  · rw [union_yes ⟨⟨i1, i3⟩, ⟨i2, i4⟩, e⟩]; exact hj
theorem reach_eq (h : RelC r (nowC cs)) (ha : 0 ≤ a ∧ a < (nowC cs).length) (hb : 0 ≤ b ∧ b < (nowC cs).length) : (decide (findR (nowC cs) a = findR (nowC cs) b) == (reachL r a).contains b) = true := by
  rw [beq_iff_eq, Bool.eq_iff_iff, decide_eq_true_eq, List.contains_iff_mem, mem_reach, findR_in ha, findR_in hb]
  have := h.same (i := a.toNat) (j := b.toNat) (by omega) (by omega)
  rw [Int.toNat_of_nonneg ha.1, Int.toNat_of_nonneg hb.1] at this
  rw [← this]; omega
theorem now_add : nowC (addC cs) = nowC cs ++ [(nowC cs).length] := rfl
end
end Go.Proofs.Ytphknfjaellkjaa.M
namespace Go.Proofs.Ytphknfjaellkjaa.E
open Go Go.RowKit Go.Proofs.Ytphknfjaellkjaa.M
theorem FoZ.fo {cs : List (List Nat)} {T : FTy} {F m : Nat} {Z : List Ent} (h : FoZ T F m cs Z) : ∃ nd, Fo nd (nowC cs) := by
  obtain ⟨vW, vU, vT, cW, cU, W, ul, tn, Lb, rfl, i⟩ := h
  obtain ⟨nd, cl, cs0, rfl, rfl, h2, h3, h4, h5, h6⟩ := i.now
  exact ⟨nd, h2⟩
end Go.Proofs.Ytphknfjaellkjaa.E
