/-
  Trees are opened, with what their slices weigh.
-/
import Derived.Test.YtkdbiooamgnfmaaGreatDoorTre
import Derived.Test.YtkdbiooamgnfmaaGreatDoorSpn
namespace Go.Proofs.YtkdbiooamgnfmaaGreatDoor.E
open Go Go.RowKit Go.ChangeShapes Go.WideShapes Go.ChangeAt Go.Deep Go.Proofs.YtkdbiooamgnfmaaGreatDoor.M
set_option linter.unusedVariables false
theorem weightsAll_mem {H : Type} {P : Program} {e : TypeId} : ∀ {l : List (DataW H)} {d : DataW H}, d ∈ l → ∀ n ∈ d.weights P e, n ∈ DataW.weightsAll P e l
  | [], d, h, n, hn => by simp at h
  | x :: l, d, h, n, hn => by
    rw [DataW.weightsAll, List.mem_append]
    rcases List.mem_cons.1 h with rfl | h
    · exact .inl hn
    · exact .inr (weightsAll_mem h n hn)
theorem weights_slice {H : Type} {P : Program} {t e : TypeId} {elems rest : List (DataW H × List MemPlace)} {ps : List MemPlace} (ht : P.underlying t = some (.slice e))
    (h : (((DataW.slice (elems.map (·.1)) (rest.map (·.1)), ps) : DataW H × List MemPlace).1.weights P t).all (· ≤ reachBytes) = true) : elems.length * P.bytesOf e ≤ reachBytes ∧ ∀ x ∈ elems, (x.1.weights P e).all (· ≤ reachBytes) = true := by
  simp only [DataW.weights, ht, List.all_cons, List.all_append, Bool.and_eq_true, decide_eq_true_eq, List.length_map] at h
  refine ⟨Nat.le_trans (Nat.mul_le_mul_right _ (Nat.le_add_right _ _)) h.1, fun x hx => ?_⟩
  rw [List.all_eq_true]
  exact fun n hn => List.all_eq_true.1 h.2.1 n (weightsAll_mem (List.mem_map_of_mem hx) n hn)
theorem open_cellsW {α H : Type} {enc : TypeId × Value → H} {P : Program} {w : World} {base : Nat} {sp : Nat → Bool} {held : Bool} {t e : TypeId} {cs0 : List Value} {x : DataW H × List MemPlace} {fuel sz : Nat} (cells : α → List Value) (ok : α → Prop)
    (hsz : ∀ a, (cells a).length = sz) (hpos : 0 < sz) (ht : P.underlying t = some (.slice e)) (hc : P.cellsOf e = sz)
    (hE : ∀ m, m < fuel → ∀ cs x, DataW.trod enc P w base sp held m e cs = some x → (x.1.weights P e).all (· ≤ reachBytes) = true → ∃ a, cs = cells a ∧ ok a) (h : DataW.trod enc P w base sp held fuel t cs0 = some x) (hw : (x.1.weights P t).all (· ≤ reachBytes) = true) :
    ∃ (v : Value) (l : List α), cs0 = [v] ∧ Sl w v sz l.length (l.flatMap cells) ∧ (∀ a ∈ l, ok a) ∧ v.cells = #[v] ∧ l.length * P.bytesOf e ≤ reachBytes := by
  rcases DataW.trod_slice ht h with ⟨h1, -⟩ | ⟨a, len, cap, elems, rest, n, hfu, rfl, hxe, hb, hl, hm, hlen, hel, -, -⟩
  · exact ⟨_, [], h1, Sl.nil w sz, fun a ha => by simp at ha, rfl, by simp⟩
  · rw [hxe] at hw
    have hw2 := weights_slice ht hw
    have key : ∀ k, k ≤ len → ∃ l : List α, l.length = k ∧ ∀ i b, l[i]? = some b → w.cells? base (a.add (i * sz)) sz = some (cells b) ∧ ok b := fun k => by
      induction k with
      | zero => exact fun _ => ⟨[], rfl, fun i b hi => by simp at hi⟩
      | succ k ih =>
        intro hk
        obtain ⟨l, h1, h2⟩ := ih (by omega)
        have h3 := hel k (by omega)
        rw [List.getElem?_eq_getElem (by omega : k < elems.length), Option.bind_eq_some_iff, hc] at h3
        obtain ⟨cs, h4, h5⟩ := h3
        obtain ⟨b, rfl, hb2⟩ := hE n (by omega) _ _ h5 (hw2.2 _ (List.getElem_mem _))
        refine ⟨l ++ [b], by simp [h1], fun i c hi => ?_⟩
        by_cases hik : i < k
        · rw [List.getElem?_append_left (by omega)] at hi; exact h2 i c hi
        · have : i = k := by
            have := (List.getElem?_eq_some_iff.1 hi).1
            simp [h1] at this; omega
          subst this
          rw [List.getElem?_append_right (by omega), h1] at hi
          simp at hi; subst hi; exact ⟨h4, hb2⟩
    obtain ⟨l, h1, h2⟩ := key len (Nat.le_refl _)
    refine ⟨_, l, rfl, ?_, fun b hb2 => ?_, rfl, by rw [h1, ← hlen]; exact hw2.1⟩
    · have hspot : 0 < len → a.spot = none := fun h0 => by
        have h3 := (h2 0 (l.getD 0 (l[0]'(by omega))) (by rw [List.getD_eq_getElem?_getD, List.getElem?_eq_getElem (by omega)]; rfl)).1
        have h4 := (World.cells?_some h3).2.2 0 hpos
        rw [Nat.zero_mul] at h4
        have h5 : a.add 0 = a ∨ a.spot = none := by
          unfold Addr.add
          split
          · rename_i hs; exact .inl (by cases a; simp)
          · rename_i hs; exact .inr (by cases hq : a.spot with
              | none => rfl
              | some _ => simp_all)
        have hcs : ((cells (l.getD 0 (l[0]'(by omega))))[0]?) ≠ none := by
          rw [Ne, List.getElem?_eq_none_iff, hsz]; omega
        rcases h5 with h5 | h5
        · rw [h5, h5] at h4
          unfold World.cell? at h4
          split at h4
          · split at h4
            · exact absurd h4.symm hcs
            · rename_i hns; cases h6 : a.spot with
              | none => rfl
              | some _ => rw [h6] at hns; simp at hns
          · exact absurd h4.symm hcs
        · exact h5
      have hadd : 0 < len → ∀ j, a.add j = ⟨a.block, a.off + j, none⟩ := fun h0 j => by
        have := hspot h0
        unfold Addr.add
        cases a; simp_all
      refine ⟨⟨some a, cap, by rw [h1], by rw [h1]; exact hl, fun h0 => ?_⟩, flat_len cells sz hsz l, fun j c hj => ?_, by rw [h1]; omega⟩
      · rw [h1] at h0
        have := hspot h0
        cases a; simp_all [sb, so]
      · obtain ⟨i, b, r, hi, rfl, hr, hbr⟩ := flat_at cells sz hsz l j c hj
        have hlen0 : 0 < len := by have := (List.getElem?_eq_some_iff.1 hi).1; omega
        have h6 := (World.cells?_some (h2 i b hi).1).2.2 r hr
        rw [hadd hlen0, show (⟨a.block, a.off + i * sz, none⟩ : Addr).add r = ⟨a.block, a.off + i * sz + r, none⟩ by simp [Addr.add]] at h6
        show w.cell? ⟨a.block, a.off + (i * sz + r), none⟩ = some c
        rw [← Nat.add_assoc, h6, hbr]
    · obtain ⟨i, hi⟩ := List.getElem?_of_mem hb2
      exact (h2 i b hi).2
section
variable {H : Type} {enc : TypeId × Value → H} {P : Program} {w : World} {base : Nat} {sp : Nat → Bool} {held : Bool} {fuel : Nat} {cs : List Value} {x : DataW H × List MemPlace} {t tws tns tw tx ti : TypeId}
end
theorem weights_here {H : Type} {P : Program} {t : TypeId} {ts : List TypeId} {d : DataW H} {ds : List (DataW H)} (h : (DataW.weightsEach P (t :: ts) (d :: ds)).all (· ≤ reachBytes) = true) : (d.weights P t).all (· ≤ reachBytes) = true := by
  rw [DataW.weightsEach, List.all_append, Bool.and_eq_true] at h; exact h.1
theorem weights_next {H : Type} {P : Program} {t : TypeId} {ts : List TypeId} {d : DataW H} {ds : List (DataW H)} (h : (DataW.weightsEach P (t :: ts) (d :: ds)).all (· ≤ reachBytes) = true) : (DataW.weightsEach P ts ds).all (· ≤ reachBytes) = true := by
  rw [DataW.weightsEach, List.all_append, Bool.and_eq_true] at h; exact h.2
end Go.Proofs.YtkdbiooamgnfmaaGreatDoor.E
