/-
  How slices, as arguments, are opened: by what each of their elements is.
-/
import Derived.Test.YtdfbimlpondblaaDoorOpen
namespace Go.Proofs.YtdfbimlpondblaaDoor.E
open Go Go.RowKit Go.ChangeShapes Go.WideShapes Go.ChangeAt Go.Proofs.YtdfbimlpondblaaDoor.M
set_option linter.unusedVariables false
theorem flat_at {α : Type} (cells : α → List Value) (sz : Nat) (hsz : ∀ a, (cells a).length = sz) : ∀ (l : List α) (j : Nat) (c : Value), (l.flatMap cells)[j]? = some c → ∃ i a r, l[i]? = some a ∧ j = i * sz + r ∧ r < sz ∧ (cells a)[r]? = some c
  | [], j, c, h => by simp at h
  | a :: l, j, c, h => by
    rw [List.flatMap_cons] at h
    by_cases hj : j < sz
    · rw [List.getElem?_append_left (by rw [hsz]; exact hj)] at h
      exact ⟨0, a, j, rfl, by omega, hj, h⟩
    · rw [List.getElem?_append_right (by rw [hsz]; omega), hsz] at h
      obtain ⟨i, b, r, h1, h2, h3, h4⟩ := flat_at cells sz hsz l _ c h
      exact ⟨i + 1, b, r, by simpa using h1, by rw [Nat.add_mul]; omega, h3, h4⟩
theorem flat_len {α : Type} (cells : α → List Value) (sz : Nat) (hsz : ∀ a, (cells a).length = sz) (l : List α) : (l.flatMap cells).length = l.length * sz := by
  induction l with
  | nil => simp
  | cons a l ih => rw [List.flatMap_cons, List.length_append, hsz, ih, List.length_cons, Nat.add_mul]; omega
theorem open_cells {α H : Type} {enc : TypeId × Value → H} {P : Program} {w : World} {base : Nat} {sp : Nat → Bool} {held : Bool} {t e : TypeId} {cs0 : List Value} {x : DataW H × List MemPlace} {fuel sz : Nat} (cells : α → List Value) (ok : α → Prop)
    (hsz : ∀ a, (cells a).length = sz) (hpos : 0 < sz) (ht : P.underlying t = some (.slice e)) (hc : P.cellsOf e = sz)
    (hE : ∀ fuel cs x, DataW.trod enc P w base sp held fuel e cs = some x → ∃ a, cs = cells a ∧ ok a) (h : DataW.trod enc P w base sp held fuel t cs0 = some x) :
    ∃ (v : Value) (l : List α), cs0 = [v] ∧ Sl w v sz l.length (l.flatMap cells) ∧ (∀ a ∈ l, ok a) ∧ v.cells = #[v] := by
  rcases DataW.trod_slice ht h with ⟨h1, -⟩ | ⟨a, len, cap, elems, rest, n, _, rfl, -, hb, hl, hm, hlen, hel, -, -⟩
  · exact ⟨_, [], h1, Sl.nil w sz, fun a ha => by simp at ha, rfl⟩
  · have key : ∀ k, k ≤ len → ∃ l : List α, l.length = k ∧ ∀ i b, l[i]? = some b → w.cells? base (a.add (i * sz)) sz = some (cells b) ∧ ok b := fun k => by
      induction k with
      | zero => exact fun _ => ⟨[], rfl, fun i b hi => by simp at hi⟩
      | succ k ih =>
        intro hk
        obtain ⟨l, h1, h2⟩ := ih (by omega)
        have h3 := hel k (by omega)
        rw [List.getElem?_eq_getElem (by omega : k < elems.length), Option.bind_eq_some_iff, hc] at h3
        obtain ⟨cs, h4, h5⟩ := h3
        obtain ⟨b, rfl, hb2⟩ := hE _ _ _ h5
        refine ⟨l ++ [b], by simp [h1], fun i c hi => ?_⟩
        by_cases hik : i < k
        · rw [List.getElem?_append_left (by omega)] at hi; exact h2 i c hi
        · have : i = k := by
            have := (List.getElem?_eq_some_iff.1 hi).1
            simp [h1] at this; omega
          subst this
          rw [List.getElem?_append_right (by omega), h1] at hi
          simp at hi; subst hi; exact ⟨h4, hb2⟩
    obtain ⟨l, h1, h2⟩ := key len (Nat.le_refl _)
    refine ⟨_, l, rfl, ?_, fun b hb2 => ?_, rfl⟩
    · have hspot : 0 < len → a.spot = none := fun h0 => by
        have h3 := (h2 0 (l.getD 0 (l[0]'(by omega))) (by rw [List.getD_eq_getElem?_getD, List.getElem?_eq_getElem (by omega)]; rfl)).1
        have h4 := (World.cells?_some h3).2.2 0 hpos
        rw [Nat.zero_mul] at h4
        have h5 : a.add 0 = a ∨ a.spot = none := by
          unfold Addr.add
          split
          · rename_i hs; exact .inl (by cases a; simp)
          · rename_i hs; exact .inr (by cases hq : a.spot with
              | none => rfl
              | some _ => simp_all)
        have hcs : ((cells (l.getD 0 (l[0]'(by omega))))[0]?) ≠ none := by
          rw [Ne, List.getElem?_eq_none_iff, hsz]; omega
        rcases h5 with h5 | h5
        · rw [h5, h5] at h4
          unfold World.cell? at h4
          split at h4
          · split at h4
            · exact absurd h4.symm hcs
            · rename_i hns; cases h6 : a.spot with
              | none => rfl
              | some _ => rw [h6] at hns; simp at hns
          · exact absurd h4.symm hcs
        · exact h5
      have hadd : 0 < len → ∀ j, a.add j = ⟨a.block, a.off + j, none⟩ := fun h0 j => by
        have := hspot h0
        unfold Addr.add
        cases a; simp_all
      refine ⟨⟨some a, cap, by rw [h1], by rw [h1]; exact hl, fun h0 => ?_⟩, flat_len cells sz hsz l, fun j c hj => ?_, by rw [h1]; omega⟩
      · rw [h1] at h0
        have := hspot h0
        cases a; simp_all [sb, so]
      · obtain ⟨i, b, r, hi, rfl, hr, hbr⟩ := flat_at cells sz hsz l j c hj
        have hlen0 : 0 < len := by have := (List.getElem?_eq_some_iff.1 hi).1; omega
        have h6 := (World.cells?_some (h2 i b hi).1).2.2 r hr
        rw [hadd hlen0, show (⟨a.block, a.off + i * sz, none⟩ : Addr).add r = ⟨a.block, a.off + i * sz + r, none⟩ by simp [Addr.add]] at h6
        show w.cell? ⟨a.block, a.off + (i * sz + r), none⟩ = some c
        rw [← Nat.add_assoc, h6, hbr]
    · obtain ⟨i, hi⟩ := List.getElem?_of_mem hb2
      exact (h2 i b hi).2
theorem open_slice {α H : Type} {enc : TypeId × Value → H} {P : Program} {w : World} {base : Nat} {sp : Nat → Bool} {held : Bool} {r : Reach} {b0 : Nat} {t e : TypeId} {v : Value} {d : DataW H} {ps : List MemPlace} {sz : Nat} (cells : α → List Value) (ok : α → Prop)
    (hsz : ∀ a, (cells a).length = sz) (hpos : 0 < sz) (ht : P.underlying t = some (.slice e)) (hc : P.cellsOf e = sz)
    (hE : ∀ fuel cs x, DataW.trod enc P w base sp held fuel e cs = some x → ∃ a, cs = cells a ∧ ok a) (hval : Value.okWide P w r b0 t v) (hd : DataW.Trod enc P w base sp held t v d ps) :
    ∃ l : List α, Sl w v sz l.length (l.flatMap cells) ∧ ∀ a ∈ l, ok a := by
  obtain ⟨a0, len0, cap0, rfl⟩ := okWide_slice ht hval
  obtain ⟨fuel, h⟩ := hd
  obtain ⟨v', l, h1, h2, h3, -⟩ := open_cells cells ok hsz hpos ht hc hE h
  have h4 : (Value.slice a0 len0 cap0) = v' := by simpa [Value.cells] using h1
  rw [h4]; exact ⟨l, h2, h3⟩
end Go.Proofs.YtdfbimlpondblaaDoor.E
