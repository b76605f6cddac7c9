/-
  Own rows that are made at once, written into, and copied into.
-/
import Derived.Test.YtphknfjaellkjaaRec
import Derived.Laws.MakeOwn
import Derived.Laws.CopyRow
namespace Go.Proofs.Ytphknfjaellkjaa.E
open Go Go.RowKit Go.Proofs.Ytphknfjaellkjaa.M
set_option linter.unusedVariables false
set_option linter.unusedSimpArgs false
section
variable {P : Program} {σ : Env} {w : World} {dst : Option Tmp} {ty t e : TypeId} {pos : String} {aft : Array Edge} {g : Option (Nat × Bool)} {x y : Operand} {α : Type} {cl : α → List Value} {sz : Nat}
end
theorem add_ad (b o n : Nat) : (⟨b, o, none⟩ : Addr).add n = ⟨b, o + n, none⟩ := by unfold Addr.add; split <;> simp_all
theorem Hp.rowTurn {w0 w : World} {L : List Ent} {i : Nat} {v : Value} {e : TypeId} {sz n : Nat} {xs : List Value} (h : Hp w0 w L) (hi : L[i]? = some (.row v e sz n xs)) (hn : 0 < n) :
    ∃ gb cap, v = .slice (some ⟨gb, 0, none⟩) n cap ∧ n ≤ cap ∧ ∃ cur : Array Value, w.heap[gb]? = some (.cells cur e (0, 0)) ∧ cur.size = cap * sz ∧ cur.toList.take (n * sz) = xs ∧
      ∀ cur' : Array Value, cur'.size = cur.size → Hp w0 (w.setRow gb cur') (L.set i (.row v e sz n (cur'.toList.take (n * sz)))) := by
  obtain ⟨hl, h2⟩ := h.get hi
  rcases h2 with ⟨rfl, rfl⟩ | ⟨gb, cap, cur, rfl, hb, hg, hnc, hm, hs, ht⟩
  · exact absurd hn (Nat.lt_irrefl 0)
  · refine ⟨gb, cap, rfl, hnc, cur, hg, hs, ht, fun cur' hc' => ?_⟩
    have hil := (List.getElem?_eq_some_iff.1 hi).1
    -- as a block
    have h1 : Hp w0 w (L.set i (.blk gb (.cells cur e (0, 0)))) := ⟨h.below, fun y hy => by
        obtain ⟨j, hj, hjy⟩ := List.mem_iff_getElem.1 hy
        rw [List.getElem_set] at hjy
        split at hjy
        · subst hjy; exact ⟨hb, hg⟩
        · exact h.ok y (hjy ▸ List.getElem_mem _), foot_set hi rfl h.dis⟩
    have hi1 : (L.set i (.blk gb (.cells cur e (0, 0))))[i]? = some (.blk gb (.cells cur e (0, 0))) := by rw [List.getElem?_set_self hil]
    have h3 := h1.set (c' := cur') hi1
    rw [List.set_set] at h3
    have hi3 : (L.set i (.blk gb (.cells cur' e (0, 0))))[i]? = some (.blk gb (.cells cur' e (0, 0))) := by rw [List.getElem?_set_self hil]
    have h4 : Hp w0 (w.setRow gb cur') ((L.set i (.blk gb (.cells cur' e (0, 0)))).set i (.row (.slice (some ⟨gb, 0, none⟩) n cap) e sz n (cur'.toList.take (n * sz)))) := ⟨h3.below, fun y hy => by
        obtain ⟨j, hj, hjy⟩ := List.mem_iff_getElem.1 hy
        rw [List.getElem_set] at hjy
        split at hjy
        · subst hjy
          have hb3 := h3.get hi3
          refine ⟨?_, .inr ⟨gb, cap, cur', rfl, hb3.1, hb3.2, hnc, hm, by rw [hc', hs], rfl⟩⟩
          rw [List.length_take, Nat.min_eq_left]
          have : cur'.toList.length = cap * sz := by rw [Array.length_toList, hc', hs]
          rw [this]; exact Nat.mul_le_mul_right _ hnc
        · exact h3.ok y (hjy ▸ List.getElem_mem _), foot_set hi3 rfl h3.dis⟩
    rw [List.set_set] at h4; exact h4
def putL (xs : List Value) (o : Nat) (new : List Value) : List Value := xs.take o ++ new ++ xs.drop (o + new.length)
theorem take_put {cur new : List Value} {o m : Nat} (h : o + new.length ≤ m) (hm : m ≤ cur.length) : (cur.take o ++ new ++ cur.drop (o + new.length)).take m = putL (cur.take m) o new := by
  rw [putL, List.take_append, List.take_append, List.take_of_length_le (l := new) (by simp only [List.length_take]; omega), List.take_take, List.take_take, Nat.min_eq_right (by omega), Nat.min_eq_left (by omega)]
  congr 1
  simp only [List.length_append, List.length_take]
  rw [List.drop_take, show min o cur.length + new.length = o + new.length by omega]
section
variable {P : Program} {n : Nat} {ops : Array Oper} {k : K} {rest l : List Oper} {σ : Env} {w0 w : World} {L : List Ent} {op : Op} {ty t e et : TypeId} {pos : String} {aft : Array Edge} {d : Nat} {x y : Operand} {g : Option (Nat × Bool)} {v : Value} {sz m i : Nat} {xs : List Value} {dst : Option Tmp}
variable {fuel j : Nat} {listed : Array Bool} {L' : List Ent}
def fromV (v : Value) (sz i : Nat) : Value :=
  match v with
  | .slice a n cap => .slice (if cap = i then a else a.map (·.add (i * sz))) (n - i) (cap - i)
  | v => v
theorem Sl.fr {cells : List Value} (h : Sl w v sz m cells) (o : Nat) (ho : o ≤ m) : Sl w (fromV v sz o) sz (m - o) (cells.drop (o * sz)) := by
  obtain ⟨a, cap, rfl, hcap, ha⟩ := h.shape
  have hl := h.len
  refine ⟨?_, by rw [List.length_drop, hl, Nat.sub_mul], fun j c hj => ?_, by have := h.small; omega⟩
  · by_cases h0 : 0 < m - o
    · have h1 := ha (by omega)
      have hco : ¬ cap = o := by omega
      refine ⟨_, cap - o, rfl, by omega, fun _ => ?_⟩
      rw [h1]; simp only [fromV, if_neg hco, Option.map_some, add_ad, sb, so]
    · exact ⟨_, cap - o, rfl, by omega, fun h => absurd h h0⟩
  · have h0 : 0 < m - o := by
      rcases Nat.eq_zero_or_pos (m - o) with h0 | h0
      · rw [List.drop_eq_nil_of_le (by rw [hl]; exact Nat.mul_le_mul_right _ (by omega))] at hj; cases hj
      · exact h0
    rw [List.getElem?_drop] at hj
    have h1 := ha (by omega)
    have h2 := h.cell _ _ hj
    have hco : ¬ cap = o := by omega
    have e1 : sb (fromV (.slice a m cap) sz o) = sb (.slice a m cap) := by rw [h1]; simp only [fromV, if_neg hco, Option.map_some, add_ad, sb, so]
    have e2 : so (fromV (.slice a m cap) sz o) = so (.slice a m cap) + o * sz := by rw [h1]; simp only [fromV, if_neg hco, Option.map_some, add_ad, sb, so]
    rw [e1, e2, Nat.add_assoc]; exact h2
end
end Go.Proofs.Ytphknfjaellkjaa.E
