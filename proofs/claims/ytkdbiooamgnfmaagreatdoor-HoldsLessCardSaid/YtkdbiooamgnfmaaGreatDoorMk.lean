/-
  Own rows that are made at once, written into, and copied into.
-/
import Derived.Test.YtkdbiooamgnfmaaGreatDoorRec
import Derived.Laws.MakeOwn
import Derived.Laws.CopyRow
namespace Go.Proofs.YtkdbiooamgnfmaaGreatDoor.E
open Go Go.RowKit Go.Proofs.YtkdbiooamgnfmaaGreatDoor.M
set_option linter.unusedVariables false
set_option linter.unusedSimpArgs false
section
variable {P : Program} {σ : Env} {w : World} {dst : Option Tmp} {ty t e : TypeId} {pos : String} {aft : Array Edge} {g : Option (Nat × Bool)} {x y : Operand} {α : Type} {cl : α → List Value} {sz : Nat}
end
theorem add_ad (b o n : Nat) : (⟨b, o, none⟩ : Addr).add n = ⟨b, o + n, none⟩ := by unfold Addr.add; split <;> simp_all
theorem Hp.rowTurn {w0 w : World} {L : List Ent} {i : Nat} {v : Value} {e : TypeId} {sz n : Nat} {xs : List Value} (h : Hp w0 w L) (hi : L[i]? = some (.row v e sz n xs)) (hn : 0 < n) :
    ∃ gb cap, v = .slice (some ⟨gb, 0, none⟩) n cap ∧ n ≤ cap ∧ ∃ cur : Array Value, w.heap[gb]? = some (.cells cur e (0, 0)) ∧ cur.size = cap * sz ∧ cur.toList.take (n * sz) = xs ∧
      ∀ cur' : Array Value, cur'.size = cur.size → Hp w0 (w.setRow gb cur') (L.set i (.row v e sz n (cur'.toList.take (n * sz)))) := by
  obtain ⟨hl, h2⟩ := h.get hi
  rcases h2 with ⟨rfl, rfl⟩ | ⟨gb, cap, cur, rfl, hb, hg, hnc, hm, hs, ht⟩
  · exact absurd hn (Nat.lt_irrefl 0)
  · refine ⟨gb, cap, rfl, hnc, cur, hg, hs, ht, fun cur' hc' => ?_⟩
    have hil := (List.getElem?_eq_some_iff.1 hi).1
    -- as a block
    have h1 : Hp w0 w (L.set i (.blk gb (.cells cur e (0, 0)))) := ⟨h.below, fun y hy => by
        obtain ⟨j, hj, hjy⟩ := List.mem_iff_getElem.1 hy
        rw [List.getElem_set] at hjy
        split at hjy
        · subst hjy; exact ⟨hb, hg⟩
        · exact h.ok y (hjy ▸ List.getElem_mem _), foot_set hi rfl h.dis⟩
    have hi1 : (L.set i (.blk gb (.cells cur e (0, 0))))[i]? = some (.blk gb (.cells cur e (0, 0))) := by rw [List.getElem?_set_self hil]
    have h3 := h1.set (c' := cur') hi1
    rw [List.set_set] at h3
    have hi3 : (L.set i (.blk gb (.cells cur' e (0, 0))))[i]? = some (.blk gb (.cells cur' e (0, 0))) := by rw [List.getElem?_set_self hil]
    have h4 : Hp w0 (w.setRow gb cur') ((L.set i (.blk gb (.cells cur' e (0, 0)))).set i (.row (.slice (some ⟨gb, 0, none⟩) n cap) e sz n (cur'.toList.take (n * sz)))) := ⟨h3.below, fun y hy => by
        obtain ⟨j, hj, hjy⟩ := List.mem_iff_getElem.1 hy
        rw [List.getElem_set] at hjy
        split at hjy
        · subst hjy
          have hb3 := h3.get hi3
          refine ⟨?_, .inr ⟨gb, cap, cur', rfl, hb3.1, hb3.2, hnc, hm, by rw [hc', hs], rfl⟩⟩
          rw [List.length_take, Nat.min_eq_left]
          have : cur'.toList.length = cap * sz := by rw [Array.length_toList, hc', hs]
          rw [this]; exact Nat.mul_le_mul_right _ hnc
        · exact h3.ok y (hjy ▸ List.getElem_mem _), foot_set hi3 rfl h3.dis⟩
    rw [List.set_set] at h4; exact h4
def putL (xs : List Value) (o : Nat) (new : List Value) : List Value := xs.take o ++ new ++ xs.drop (o + new.length)
theorem take_put {cur new : List Value} {o m : Nat} (h : o + new.length ≤ m) (hm : m ≤ cur.length) : (cur.take o ++ new ++ cur.drop (o + new.length)).take m = putL (cur.take m) o new := by
  rw [putL, List.take_append, List.take_append, List.take_of_length_le (l := new) (by simp only [List.length_take]; omega), List.take_take, List.take_take, Nat.min_eq_right (by omega), Nat.min_eq_left (by omega)]
  congr 1
  simp only [List.length_append, List.length_take]
  rw [List.drop_take, show min o cur.length + new.length = o + new.length by omega]
section
variable {P : Program} {n : Nat} {ops : Array Oper} {k : K} {rest l : List Oper} {σ : Env} {w0 w : World} {L : List Ent} {op : Op} {ty t e et : TypeId} {pos : String} {aft : Array Edge} {d : Nat} {x y : Operand} {g : Option (Nat × Bool)} {v : Value} {sz m i : Nat} {xs : List Value} {dst : Option Tmp}
variable {fuel j : Nat} {listed : Array Bool} {L' : List Ent}
theorem row_copy {sT : TypeId} {u : Value} {c dLen dCap o m' : Nat} {cells : List Value} (hH : Hp w0 w L) (hi : L[i]? = some (.row v e sz m xs)) (hm : 0 < m) (hu : P.underlying t = some (.slice et)) (hs : (P.info? et).map (·.size) = some sz)
    (hx : ev σ x = .slice (some ⟨sb v, so v + o * sz, none⟩) dLen dCap) (hy : ev σ y = u) (hS : Sl w u sz m' cells) (hc : Nat.min m' dLen = c) (ho : o + c ≤ m) (h1 : ∀ q ∈ cells, q.oneCell' = true) :
    ∃ w', (execOp (ev σ) ⟨dst, .call { callee := .builtin .copy, args := #[x, y], argTypes := #[t, sT] }, ty, pos, aft, g⟩).run P w = .ok (.value (goInt c)) w' ∧ Hp w0 w' (L.set i (.row v e sz m (putL xs (o * sz) (cells.take (c * sz))))) := by
  obtain ⟨gb, cap, rfl, hnc, cur, hg, hcs, ht, hk⟩ := hH.rowTurn hi hm
  obtain ⟨ua, ucap, rfl, huc, hua⟩ := hS.shape
  have hcl := hS.len
  have hcm : m * sz ≤ cap * sz := Nat.mul_le_mul_right _ hnc
  have hc1 : c ≤ m' := by rw [← hc]; exact Nat.min_le_left _ _
  have hlt : (cells.take (c * sz)).length = c * sz := by rw [List.length_take, hcl, Nat.min_eq_left (Nat.mul_le_mul_right _ hc1)]
  have hoc : o * sz + c * sz ≤ m * sz := by rw [← Nat.add_mul]; exact Nat.mul_le_mul_right _ ho
  have hx' : ev σ x = .slice (some ⟨gb, o * sz, none⟩) dLen dCap := by rw [hx]; simp only [sb, so, Nat.zero_add]
  have hst := run_storeCells_at P gb (o * sz) e (cells.take (c * sz)) 0 cur w hg (by rw [hlt]; omega) (fun q hq => h1 q (List.mem_of_mem_take hq))
  have hload : (Builtin.firstCells sz c (.slice ua m' ucap)).run P w = .ok (cells.take (c * sz)).toArray w := by
    by_cases hz : c * sz = 0
    · rw [hz, List.take_zero]
      cases ua with
      | none => simp [Builtin.firstCells, hz]
      | some a => have := run_loadCells_list (P := P) w a [] (fun j v hv => by simp at hv); simpa [Builtin.firstCells, hz] using this
    · have hm0 : 0 < m' := by
        rcases Nat.eq_zero_or_pos m' with h | h
        · rw [show c = 0 by omega] at hz; simp at hz
        · exact h
      have hl := run_loadCells_list (P := P) w ⟨sb (.slice ua m' ucap), so (.slice ua m' ucap), none⟩ (cells.take (c * sz)) (fun j q hq => by
        rw [add_ad]
        rw [List.getElem?_take] at hq
        split at hq
        · exact hS.cell j q hq
        · cases hq)
      rw [hlt] at hl
      rw [hua hm0]
      simpa [Builtin.firstCells] using hl
  refine ⟨w.setRow gb (cur.toList.take (o * sz) ++ cells.take (c * sz) ++ cur.toList.drop (o * sz + (cells.take (c * sz)).length)).toArray, ?_, ?_⟩
  rotate_left
  · have h2 := hk (cur.toList.take (o * sz) ++ cells.take (c * sz) ++ cur.toList.drop (o * sz + (cells.take (c * sz)).length)).toArray (by
      simp only [List.size_toArray, List.length_append, List.length_take, List.length_drop, Array.length_toList]; rw [hcl]
      have : min (c * sz) (m' * sz) = c * sz := Nat.min_eq_left (Nat.mul_le_mul_right _ hc1)
      omega)
    rw [show (cur.toList.take (o * sz) ++ cells.take (c * sz) ++ cur.toList.drop (o * sz + (cells.take (c * sz)).length)).toArray.toList = cur.toList.take (o * sz) ++ cells.take (c * sz) ++ cur.toList.drop (o * sz + (cells.take (c * sz)).length) from rfl, take_put (by rw [hlt]; omega) (by rw [Array.length_toList]; omega), ht] at h2
    exact h2
  · have hq : ∃ ii, P.info? et = some ii ∧ ii.size = sz := by
      cases hq : P.info? et with
      | none => simp [hq] at hs
      | some ii => exact ⟨ii, rfl, by simpa [hq] using hs⟩
    obtain ⟨ii, hii, his⟩ := hq
    rw [Nat.add_zero] at hst
    have hcp : (Builtin.copy_ #[t, sT] ty #[.slice (some ⟨gb, o * sz, none⟩) dLen dCap, .slice ua m' ucap]).run P w = .ok (goInt c) (w.setRow gb (cur.toList.take (o * sz) ++ cells.take (c * sz) ++ cur.toList.drop (o * sz + (cells.take (c * sz)).length)).toArray) := by
      have hc2 : min m' dLen = c := hc
      simp [Builtin.copy_, run_underlying hu, Builtin.lenOf, sizeOf, typeInfo, hii, his, hc, hc2, hload]
      have hst2 := hst
      simp at hst2
      rw [hst2]; rfl
    simp [execOp, resolve, invoke, builtin, hx', hy, hcp]
theorem AO.rowcopy {j fuel : Nat} {listed : Array Bool} {L' : List Ent} {Q : World → Prop} {vv : Value} (hj : l[j]? = some ⟨some d, op, ty, pos, aft, g⟩) (hg : ∀ a, Is n σ a → Region.wanted ⟨some d, op, ty, pos, aft, g⟩ (yielded l.toArray a.tmps) = true) (hd : Nat.blt d n = true) (h : ∃ w', (execOp (ev σ) ⟨some d, op, ty, pos, aft, g⟩).run P w = .ok (.value vv) w' ∧ Q w') (hQ : ∀ w', Q w' → Hp w0 w' L')
    (hk : ∀ w', Q w' → AN P n l (fun w => Hp w0 w L') k fuel (listed.setIfInBounds j true) (upd σ d vv) w') : AO P n l (fun w => Hp w0 w L') k fuel listed σ w j := by
  obtain ⟨w', hr, hq⟩ := h; exact AO.val hj hg hd hr (hQ w' hq) (hk w' hq)
def fromV (v : Value) (sz i : Nat) : Value :=
  match v with
  | .slice a n cap => .slice (if cap = i then a else a.map (·.add (i * sz))) (n - i) (cap - i)
  | v => v
theorem row_form (hH : Hp w0 w L) (hi : L[i]? = some (.row v e sz m xs)) (hm : 0 < m) : ∃ gb cap, v = .slice (some ⟨gb, 0, none⟩) m cap ∧ m ≤ cap := by
  obtain ⟨gb, cap, h, h2, -⟩ := hH.rowTurn hi hm; exact ⟨gb, cap, h, h2⟩
theorem putL_nil (xs : List Value) (o : Nat) : putL xs o [] = xs := by simp [putL]
theorem row_copyF {sT : TypeId} {u : Value} {c o m' : Nat} {cells : List Value} (hH : Hp w0 w L) (hi : L[i]? = some (.row v e sz m xs)) (hm : 0 < m) (hu : P.underlying t = some (.slice et)) (hs : (P.info? et).map (·.size) = some sz)
    (hx : ev σ x = fromV v sz o) (hy : ev σ y = u) (hS : Sl w u sz m' cells) (hc : Nat.min m' (m - o) = c) (ho : o ≤ m) (h1 : ∀ q ∈ cells, q.oneCell' = true) :
    ∃ w', (execOp (ev σ) ⟨dst, .call { callee := .builtin .copy, args := #[x, y], argTypes := #[t, sT] }, ty, pos, aft, g⟩).run P w = .ok (.value (goInt c)) w' ∧ Hp w0 w' (L.set i (.row v e sz m (putL xs (o * sz) (cells.take (c * sz))))) := by
  obtain ⟨gb, cap, rfl, hcap⟩ := row_form hH hi hm
  have hcm : c ≤ m - o := by have h := Nat.min_le_right m' (m - o); rwa [show min m' (m - o) = c from hc] at h
  by_cases hco : cap = o
  · have h0 : c = 0 := by omega
    subst h0
    have hx' : ev σ x = .slice (some ⟨sb (.slice (some ⟨gb, 0, none⟩) m cap), so (.slice (some ⟨gb, 0, none⟩) m cap) + 0 * sz, none⟩) (m - o) (cap - o) := by rw [hx]; simp [fromV, hco, sb, so]
    obtain ⟨w', hr, h2⟩ := row_copy (sT := sT) (dst := dst) (ty := ty) (pos := pos) (aft := aft) (g := g) (o := 0) hH hi hm hu hs hx' hy hS hc (by omega) h1
    refine ⟨w', hr, ?_⟩
    simp only [Nat.zero_mul, List.take_zero, putL_nil] at h2 ⊢
    exact h2
  · refine row_copy (dLen := m - o) (dCap := cap - o) hH hi hm hu hs ?_ hy hS hc (by omega) h1
    rw [hx]
    simp only [fromV, if_neg hco, Option.map_some, add_ad, sb, so]
theorem RL.rowcopy {Q : World → Prop} {vv : Value} (hd : Nat.blt d n = true) (h : ∃ w', (execOp (ev σ) ⟨some d, op, ty, pos, aft, none⟩).run P w = .ok (.value vv) w' ∧ Q w')
    (hk : ∀ w', Q w' → RL P n ops k rest (upd σ d vv) w') : RL P n ops k (⟨some d, op, ty, pos, aft, none⟩ :: rest) σ w := by
  obtain ⟨w', hr, hq⟩ := h; exact RL.val hd hr (hk w' hq)
theorem Sl.fr {cells : List Value} (h : Sl w v sz m cells) (o : Nat) (ho : o ≤ m) : Sl w (fromV v sz o) sz (m - o) (cells.drop (o * sz)) := by
  obtain ⟨a, cap, rfl, hcap, ha⟩ := h.shape
  have hl := h.len
  refine ⟨?_, by rw [List.length_drop, hl, Nat.sub_mul], fun j c hj => ?_, by have := h.small; omega⟩
  · by_cases h0 : 0 < m - o
    · have h1 := ha (by omega)
      have hco : ¬ cap = o := by omega
      refine ⟨_, cap - o, rfl, by omega, fun _ => ?_⟩
      rw [h1]; simp only [fromV, if_neg hco, Option.map_some, add_ad, sb, so]
    · exact ⟨_, cap - o, rfl, by omega, fun h => absurd h h0⟩
  · have h0 : 0 < m - o := by
      rcases Nat.eq_zero_or_pos (m - o) with h0 | h0
      · rw [List.drop_eq_nil_of_le (by rw [hl]; exact Nat.mul_le_mul_right _ (by omega))] at hj; cases hj
      · exact h0
    rw [List.getElem?_drop] at hj
    have h1 := ha (by omega)
    have h2 := h.cell _ _ hj
    have hco : ¬ cap = o := by omega
    have e1 : sb (fromV (.slice a m cap) sz o) = sb (.slice a m cap) := by rw [h1]; simp only [fromV, if_neg hco, Option.map_some, add_ad, sb, so]
    have e2 : so (fromV (.slice a m cap) sz o) = so (.slice a m cap) + o * sz := by rw [h1]; simp only [fromV, if_neg hco, Option.map_some, add_ad, sb, so]
    rw [e1, e2, Nat.add_assoc]; exact h2
theorem run_from {lo : Operand} {q : Int} {cells : List Value} (hS : Sl w v sz m cells) (hu : P.underlying t = some (.slice et)) (hs : ∀ w, (sizeOf et).run P w = .ok sz w) (hx : ev σ x = v) (hlo : ev σ lo = I q) (h : 0 ≤ q ∧ q ≤ m) :
    (execOp (ev σ) ⟨dst, .slice t x (some lo) none none, ty, pos, aft, g⟩).run P w = .ok (.value (fromV v sz q.toNat)) w := by
  obtain ⟨a, cap, rfl, hcap, ha⟩ := hS.shape
  have h1 : 0 ≤ q ∧ q ≤ (m : Int) := h
  have h2 : (Instr.slice t (.slice a m cap) (some (I q)) none none).run P w = .ok (fromV (.slice a m cap) sz q.toNat) w := by
    simp [Instr.slice, Instr.sliceBounds, Instr.sliceBound, run_underlying hu, asIntOf, h1, hs, fromV]
  have h3 : (Instr.sliceAt t (.slice a m cap) (some (I q)) none none).run P w = .ok (fromV (.slice a m cap) sz q.toNat) w := by
    simp [Instr.sliceAt, run_underlying hu, h2]
  simp [execOp, hx, hlo, h3]
end
end Go.Proofs.YtkdbiooamgnfmaaGreatDoor.E
