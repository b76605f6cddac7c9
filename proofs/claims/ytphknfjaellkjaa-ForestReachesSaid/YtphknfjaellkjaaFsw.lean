/-
  Classes and the relation of the joined pairs.
-/
import Derived.Test.YtphknfjaellkjaaFsv
import Derived.Test.YtphknfjaellkjaaClo
namespace Go.Proofs.Ytphknfjaellkjaa.M
open Go
set_option linter.unusedVariables false
set_option linter.unusedSimpArgs false
structure RelC (r : Rl) (cl : List Nat) : Prop where
  n : pts r = cl.length
  sym : ∀ i j : Int, hasR r i j = true → hasR r j i = true
  edge : ∀ i j : Int, hasR r i j = true → clF cl i.toNat = clF cl j.toNat
  lead : ∀ i : Nat, i < cl.length → hasR (cloR r) i (clF cl i) = true
theorem clo_sym {r : Rl} (hs : ∀ i j : Int, hasR r i j = true → hasR r j i = true) {i j : Int} (h : hasR (cloR r) i j = true) : hasR (cloR r) j i = true := by
  have h1 := (hasR_bit h).1
  rw [clo_pts] at h1
  exact clo_least h (fun y => hasR (cloR r) y i = true) (fun x y hx hy => clo_trans (clo_base (hs _ _ hy)) hx) (clo_refl h1)
theorem clo_mono {r q : Rl} (hp : pts q = pts r) (hm : ∀ i j : Int, hasR r i j = true → hasR q i j = true) {i j : Int} (h : hasR (cloR r) i j = true) : hasR (cloR q) i j = true := by
  have h1 := (hasR_bit h).1
  rw [clo_pts] at h1
  exact clo_least h (fun y => hasR (cloR q) i y = true) (fun x y hx hy => clo_trans hx (clo_base (hm _ _ hy))) (clo_refl (by rw [hp]; exact h1))
section
variable {r : Rl} {cl : List Nat} {nd : List Fnd}
theorem RelC.same (h : RelC r cl) {i j : Nat} (hi : i < cl.length) (hj : j < cl.length) : clF cl i = clF cl j ↔ hasR (cloR r) i j = true := by
  constructor
  · intro e
    have h1 := h.lead i hi; have h2 := h.lead j hj
    rw [e] at h1
    exact clo_trans h1 (clo_sym h.sym h2)
  · intro hc
    have := clo_least hc (fun y => clF cl i = clF cl y.toNat) (fun x y hx hy => hx.trans (h.edge _ _ hy)) (by simp)
    simpa using this
theorem join_self (cl : List Nat) (c : Nat) : joinC cl c c = cl := by
  unfold joinC
  conv => rhs; rw [← List.map_id cl]
  apply List.map_congr_left
  intro x _
  by_cases h : x = c ∨ x = c
  · rw [mix_in h]; simp; omega
  · rw [mix_out h]; rfl
theorem RelC.join (h : RelC r cl) (hf : Fo nd cl) {q : Rl} {x y : Nat} (hx : x < cl.length) (hy : y < cl.length) (hp : pts q = pts r) (hq : ∀ i j : Int, hasR q i j = true ↔ hasR r i j = true ∨ (i = x ∧ j = y) ∨ (i = y ∧ j = x)) : RelC q (joinC cl (clF cl x) (clF cl y)) := by
  have hm : ∀ i j : Int, hasR r i j = true → hasR q i j = true := fun i j e => (hq i j).2 (.inl e)
  have hs : ∀ i j : Int, hasR q i j = true → hasR q j i = true := fun i j e => by
    rcases (hq i j).1 e with e | e | e
    · exact hm _ _ (h.sym _ _ e)
    · exact (hq j i).2 (.inr (.inr ⟨e.2, e.1⟩))
    · exact (hq j i).2 (.inr (.inl ⟨e.2, e.1⟩))
  have hlen : (joinC cl (clF cl x) (clF cl y)).length = cl.length := by simp [joinC]
  have hlc : ∀ i, i < cl.length → clF cl i < cl.length := fun i hi => by have := (hf.lc i (by rw [← hf.len]; exact hi)).1; omega
  have gc : ∀ i, i < cl.length → clF (joinC cl (clF cl x) (clF cl y)) i = mixC (clF cl x) (clF cl y) (clF cl i) := fun i hi => cl_join hi
  have xy : hasR (cloR q) x y = true := clo_base ((hq x y).2 (.inr (.inl ⟨rfl, rfl⟩)))
  have cs : ∀ {i j : Int}, hasR (cloR q) i j = true → hasR (cloR q) j i = true := fun e => clo_sym hs e
  have lq : ∀ i : Nat, i < cl.length → hasR (cloR q) i (clF cl i) = true := fun i hi => clo_mono hp hm (h.lead i hi)
  have cxy : hasR (cloR q) (clF cl x) (clF cl y) = true := clo_trans (cs (lq x hx)) (clo_trans xy (lq y hy))
  refine ⟨by rw [hp, h.n, hlen], hs, fun i j e => ?_, fun i hi => ?_⟩
  · have hb := hasR_bit e
    rw [hp, h.n] at hb
    rw [gc _ (by omega), gc _ (by omega)]
    rcases (hq i j).1 e with e | e | e
    · rw [h.edge _ _ e]
    · rw [e.1, e.2, Int.toNat_natCast, Int.toNat_natCast, mix_in (.inl rfl), mix_in (.inr rfl)]
    · rw [e.1, e.2, Int.toNat_natCast, Int.toNat_natCast, mix_in (.inl rfl), mix_in (.inr rfl)]
  · rw [hlen] at hi
    rw [gc i hi]
    by_cases c : clF cl i = clF cl x ∨ clF cl i = clF cl y
    · rw [mix_in c]
      have h1 := lq i hi
      rcases c with c | c <;> rw [c] at h1 <;> rcases min_in (clF cl x) (clF cl y) with e | e <;> rw [e]
      · exact h1
      · exact clo_trans h1 cxy
      · exact clo_trans h1 (cs cxy)
      · exact h1
    · rw [mix_out c]; exact lq i hi
end
end Go.Proofs.Ytphknfjaellkjaa.M
