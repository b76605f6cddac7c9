/-
  Trees, words and commands: their records, and how they are opened.
-/
import Derived.Test.YtieckcbckgalhaaGreatDoorSco
namespace Go.Proofs.YtieckcbckgalhaaGreatDoor.E
open Go Go.RowKit Go.ChangeShapes Go.WideShapes Go.ChangeAt Go.Deep Go.Proofs.YtieckcbckgalhaaGreatDoor.M
set_option linter.unusedVariables false
/-- What a slice's cells are, from what each element's are. -/
theorem open_cellsN {α H : Type} {enc : TypeId × Value → H} {P : Program} {w : World} {base : Nat} {sp : Nat → Bool} {held : Bool} {t e : TypeId} {cs0 : List Value} {x : DataW H × List MemPlace} {fuel sz : Nat} (cells : α → List Value) (ok : α → Prop)
    (hsz : ∀ a, (cells a).length = sz) (hpos : 0 < sz) (ht : P.underlying t = some (.slice e)) (hc : P.cellsOf e = sz)
    (hE : ∀ m, m < fuel → ∀ cs x, DataW.trod enc P w base sp held m e cs = some x → ∃ a, cs = cells a ∧ ok a) (h : DataW.trod enc P w base sp held fuel t cs0 = some x) :
    ∃ (v : Value) (l : List α), cs0 = [v] ∧ Sl w v sz l.length (l.flatMap cells) ∧ (∀ a ∈ l, ok a) ∧ v.cells = #[v] := by
  rcases DataW.trod_slice ht h with ⟨h1, -⟩ | ⟨a, len, cap, elems, rest, n, hfu, rfl, -, hb, hl, hm, hlen, hel, -, -⟩
  · exact ⟨_, [], h1, Sl.nil w sz, fun a ha => by simp at ha, rfl⟩
  · have key : ∀ k, k ≤ len → ∃ l : List α, l.length = k ∧ ∀ i b, l[i]? = some b → w.cells? base (a.add (i * sz)) sz = some (cells b) ∧ ok b := fun k => by
      induction k with
      | zero => exact fun _ => ⟨[], rfl, fun i b hi => by simp at hi⟩
      | succ k ih =>
        intro hk
        obtain ⟨l, h1, h2⟩ := ih (by omega)
        have h3 := hel k (by omega)
        rw [List.getElem?_eq_getElem (by omega : k < elems.length), Option.bind_eq_some_iff, hc] at h3
        obtain ⟨cs, h4, h5⟩ := h3
        obtain ⟨b, rfl, hb2⟩ := hE n (by omega) _ _ h5
        refine ⟨l ++ [b], by simp [h1], fun i c hi => ?_⟩
        by_cases hik : i < k
        · rw [List.getElem?_append_left (by omega)] at hi; exact h2 i c hi
        · have : i = k := by
            have := (List.getElem?_eq_some_iff.1 hi).1
            simp [h1] at this; omega
          subst this
          rw [List.getElem?_append_right (by omega), h1] at hi
          simp at hi; subst hi; exact ⟨h4, hb2⟩
    obtain ⟨l, h1, h2⟩ := key len (Nat.le_refl _)
    refine ⟨_, l, rfl, ?_, fun b hb2 => ?_, rfl⟩
    · have hspot : 0 < len → a.spot = none := fun h0 => by
        have h3 := (h2 0 (l.getD 0 (l[0]'(by omega))) (by rw [List.getD_eq_getElem?_getD, List.getElem?_eq_getElem (by omega)]; rfl)).1
        have h4 := (World.cells?_some h3).2.2 0 hpos
        rw [Nat.zero_mul] at h4
        have h5 : a.add 0 = a ∨ a.spot = none := by
          unfold Addr.add
          split
          · rename_i hs; exact .inl (by cases a; simp)
          · rename_i hs; exact .inr (by cases hq : a.spot with
              | none => rfl
              | some _ => simp_all)
        have hcs : ((cells (l.getD 0 (l[0]'(by omega))))[0]?) ≠ none := by
          rw [Ne, List.getElem?_eq_none_iff, hsz]; omega
        rcases h5 with h5 | h5
        · rw [h5, h5] at h4
          unfold World.cell? at h4
          split at h4
          · split at h4
            · exact absurd h4.symm hcs
            · rename_i hns; cases h6 : a.spot with
              | none => rfl
              | some _ => rw [h6] at hns; simp at hns
          · exact absurd h4.symm hcs
        · exact h5
      have hadd : 0 < len → ∀ j, a.add j = ⟨a.block, a.off + j, none⟩ := fun h0 j => by
        have := hspot h0
        unfold Addr.add
        cases a; simp_all
      refine ⟨⟨some a, cap, by rw [h1], by rw [h1]; exact hl, fun h0 => ?_⟩, flat_len cells sz hsz l, fun j c hj => ?_, by rw [h1]; omega⟩
      · rw [h1] at h0
        have := hspot h0
        cases a; simp_all [sb, so]
      · obtain ⟨i, b, r, hi, rfl, hr, hbr⟩ := flat_at cells sz hsz l j c hj
        have hlen0 : 0 < len := by have := (List.getElem?_eq_some_iff.1 hi).1; omega
        have h6 := (World.cells?_some (h2 i b hi).1).2.2 r hr
        rw [hadd hlen0, show (⟨a.block, a.off + i * sz, none⟩ : Addr).add r = ⟨a.block, a.off + i * sz + r, none⟩ by simp [Addr.add]] at h6
        show w.cell? ⟨a.block, a.off + (i * sz + r), none⟩ = some c
        rw [← Nat.add_assoc, h6, hbr]
    · obtain ⟨i, hi⟩ := List.getElem?_of_mem hb2
      exact (h2 i b hi).2
structure WdTT (P : Program) (t tx ti : TypeId) : Prop where
  u : ∃ f0 f1 : Field, P.underlying t = some (.struct #[f0, f1]) ∧ (f0.type = tx ∧ f0.offset = 0) ∧ (f1.type = ti ∧ f1.offset = 1)
  x : P.underlying tx = some .string
  cx : P.cellsOf tx = 1
  i : P.underlying ti = some (.int .i64)
  ci : P.cellsOf ti = 1
  z : P.cellsOf t = 2
structure NodeTT (P : Program) (t tws tns tw tx ti : TypeId) : Prop where
  w : WdTT P tw tx ti
  u : ∃ f0 f1 f2 f3 f4 : Field, P.underlying t = some (.struct #[f0, f1, f2, f3, f4]) ∧ (f0.type = ti ∧ f0.offset = 0) ∧ (f1.type = ti ∧ f1.offset = 1) ∧ (f2.type = tx ∧ f2.offset = 2) ∧ (f3.type = tws ∧ f3.offset = 3) ∧ (f4.type = tns ∧ f4.offset = 4)
  ws : P.underlying tws = some (.slice tw)
  ns : P.underlying tns = some (.slice t)
  cws : P.cellsOf tws = 1
  cns : P.cellsOf tns = 1
  z : P.cellsOf t = 5
section
variable {H : Type} {enc : TypeId × Value → H} {P : Program} {w : World} {base : Nat} {sp : Nat → Bool} {held : Bool} {fuel : Nat} {cs : List Value} {x : DataW H × List MemPlace} {t tws tns tw tx ti : TypeId}
theorem trod_wd (T : WdTT P t tx ti) (h : DataW.trod enc P w base sp held fuel t cs = some x) : ∃ v : Wd, cs = wdL v ∧ True := by
  obtain ⟨f0, f1, ht, h0, h1⟩ := T.u
  obtain ⟨y0, y1, n, -, hl, h3, h4⟩ := trod_struct2 ht h
  rw [h0.1, h0.2, T.cx] at h3
  rw [h1.1, h1.2, T.ci] at h4
  obtain ⟨b, e3, -⟩ := DataW.trod_string T.x h3
  obtain ⟨c, e4, -⟩ := DataW.trod_int T.i h4
  rw [T.z] at hl
  match cs, hl with
  | [u, v], _ =>
    simp at e3 e4
    exact ⟨⟨b, c⟩, by rw [e3, e4]; rfl, trivial⟩
theorem trod_node (T : NodeTT P t tws tns tw tx ti) : ∀ (fuel : Nat) (cs : List Value) (x : DataW H × List MemPlace), DataW.trod enc P w base sp held fuel t cs = some x → ∃ n : NodeR, cs = nodeL n ∧ NodeV (Kw w) n := by
  intro fuel
  induction fuel using Nat.strongRecOn with
  | _ fuel ih =>
    intro cs x h
    obtain ⟨f0, f1, f2, f3, f4, ht, h0, h1, h2, h3, h4⟩ := T.u
    obtain ⟨xs, n, hfu, rfl, hl, hlen, hf⟩ := DataW.trod_struct ht h
    have g0 := hf 0 f0 rfl
    have g1 := hf 1 f1 rfl
    have g2 := hf 2 f2 rfl
    have g3 := hf 3 f3 rfl
    have g4 := hf 4 f4 rfl
    match xs, hlen with
    | [y0, y1, y2, y3, y4], _ =>
      simp only [List.getElem?_cons_zero, List.getElem?_cons_succ] at g0 g1 g2 g3 g4
      rw [h0.1, h0.2, T.w.ci] at g0
      rw [h1.1, h1.2, T.w.ci] at g1
      rw [h2.1, h2.2, T.w.cx] at g2
      rw [h3.1, h3.2, T.cws] at g3
      rw [h4.1, h4.2, T.cns] at g4
      obtain ⟨a, e0, -⟩ := DataW.trod_int T.w.i g0
      obtain ⟨b, e1, -⟩ := DataW.trod_int T.w.i g1
      obtain ⟨c, e2, -⟩ := DataW.trod_string T.w.x g2
      obtain ⟨nv, names, e3, hs, -, -⟩ := open_cells (sz := 2) wdL (fun _ => True) wdL_len (by omega) T.ws T.w.z (fun _ _ _ hx => trod_wd T.w hx) g3
      obtain ⟨kv, kids, e4, hk, hok, -⟩ := open_cellsN (sz := 5) nodeL (NodeV (Kw w)) nodeL_len (by omega) T.ns T.z (fun m hm cs x hx => ih m (by omega) cs x hx) g4
      rw [T.z] at hl
      refine ⟨.mk a b c nv names kv kids, ?_, .mk hs.slv hk.slv hok⟩
      match cs, hl with
      | [u0, u1, u2, u3, u4], _ =>
        simp at e0 e1 e2 e3 e4
        rw [e0, e1, e2, e3, e4]; rfl
end
end Go.Proofs.YtieckcbckgalhaaGreatDoor.E
