/-
  Own rows that are made at once, written into, and copied into.
-/
import Derived.Test.YtdfbimlpondblaaGreatDoorRec
import Derived.Laws.MakeOwn
import Derived.Laws.CopyRow
namespace Go.Proofs.YtdfbimlpondblaaGreatDoor.E
open Go Go.RowKit Go.Proofs.YtdfbimlpondblaaGreatDoor.M
set_option linter.unusedVariables false
set_option linter.unusedSimpArgs false
theorem flat_mod {α : Type} {cl : α → List Value} {sz : Nat} (hsz : ∀ a, (cl a).length = sz) (hpos : 0 < sz) (z0 : α) (n : Nat) : madeCells (cl z0).toArray (n * sz) = ((List.replicate n z0).flatMap cl).toArray := by
  refine Array.ext' (List.ext_getElem? fun j => ?_)
  have hl : ((List.replicate n z0).flatMap cl).length = n * sz := by rw [flat_length hsz, List.length_replicate]
  by_cases hj : j < n * sz
  · have h1 : j / sz < n := Nat.div_lt_of_lt_mul (by rw [Nat.mul_comm]; exact hj)
    have h2 : j % sz < (cl z0).length := by rw [hsz]; exact Nat.mod_lt _ hpos
    have h3 := flat_get hsz (List.replicate n z0) (j / sz) z0 (by rw [List.getElem?_replicate, if_pos h1]) (j % sz) (cl z0)[j % sz] (List.getElem?_eq_getElem h2)
    rw [show j / sz * sz + j % sz = j by rw [Nat.mul_comm]; exact Nat.div_add_mod j sz] at h3
    show (madeCells (cl z0).toArray (n * sz)).toList[j]? = ((List.replicate n z0).flatMap cl)[j]?
    rw [h3, madeCells, Array.toList_map, List.getElem?_map, Array.toList_range, List.getElem?_range hj]
    simp only [Option.map_some, List.size_toArray, hsz]
    congr 1
    rw [getElem!_def]
    simp only [List.getElem?_toArray, List.getElem?_eq_getElem h2]
  · rw [List.getElem?_eq_none (by rw [show (madeCells (cl z0).toArray (n * sz)).toList.length = n * sz by simp [madeCells]]; omega), List.getElem?_eq_none (by rw [show ((List.replicate n z0).flatMap cl).toArray.toList.length = n * sz from hl]; omega)]
section
variable {P : Program} {σ : Env} {w : World} {dst : Option Tmp} {ty t e : TypeId} {pos : String} {aft : Array Edge} {g : Option (Nat × Bool)} {x y : Operand} {α : Type} {cl : α → List Value} {sz : Nat}
theorem run_mkRow {ie : TypeInfo} {z : Value} {z0 : α} {n : Nat} (hsz : ∀ a, (cl a).length = sz) (hpos : 0 < sz) (hu : P.underlying t = some (.slice e)) (hie : P.info? e = some ie) (hz : ie.zero = some z) (hzc : z.cells = (cl z0).toArray) (hs : ie.size = sz)
    (hx : ev σ x = .int .i64 n) (hy : ev σ y = .int .i64 n) (hb : ie.bytes * n ≤ 281474976710656) (hn : n ≤ maxLen) :
    (execOp (ev σ) ⟨dst, .makeSlice t x y, ty, pos, aft, g⟩).run P w = .ok (.value (.slice (some ⟨w.heap.size, 0, none⟩) n n)) (w.alloc (.cells ((List.replicate n z0).flatMap cl).toArray e)) := by
  have hb' : (ie.bytes : Int) * n ≤ 281474976710656 := by
    have h : ((ie.bytes * n : Nat) : Int) ≤ 281474976710656 := by omega
    rwa [Int.natCast_mul] at h
  have hr := run_make (P := P) w t e ie z hu hie hz .i64 .i64 n n (by omega) (Int.le_refl _) hb' (by unfold maxLen at hn; omega)
  rw [hzc, hs, Int.toNat_natCast, flat_mod hsz hpos] at hr
  simp [execOp, hx, hy, hr]
end
theorem add_ad (b o n : Nat) : (⟨b, o, none⟩ : Addr).add n = ⟨b, o + n, none⟩ := by unfold Addr.add; split <;> simp_all
theorem Hp.rowTurn {w0 w : World} {L : List Ent} {i : Nat} {v : Value} {e : TypeId} {sz n : Nat} {xs : List Value} (h : Hp w0 w L) (hi : L[i]? = some (.row v e sz n xs)) (hn : 0 < n) :
    ∃ gb cap, v = .slice (some ⟨gb, 0, none⟩) n cap ∧ n ≤ cap ∧ ∃ cur : Array Value, w.heap[gb]? = some (.cells cur e (0, 0)) ∧ cur.size = cap * sz ∧ cur.toList.take (n * sz) = xs ∧
      ∀ cur' : Array Value, cur'.size = cur.size → Hp w0 (w.setRow gb cur') (L.set i (.row v e sz n (cur'.toList.take (n * sz)))) := by
  obtain ⟨hl, h2⟩ := h.get hi
  rcases h2 with ⟨rfl, rfl⟩ | ⟨gb, cap, cur, rfl, hb, hg, hnc, hm, hs, ht⟩
  · exact absurd hn (Nat.lt_irrefl 0)
  · refine ⟨gb, cap, rfl, hnc, cur, hg, hs, ht, fun cur' hc' => ?_⟩
    have hil := (List.getElem?_eq_some_iff.1 hi).1
    -- as a block
    have h1 : Hp w0 w (L.set i (.blk gb (.cells cur e (0, 0)))) := ⟨h.below, fun y hy => by
        obtain ⟨j, hj, hjy⟩ := List.mem_iff_getElem.1 hy
        rw [List.getElem_set] at hjy
        split at hjy
        · subst hjy; exact ⟨hb, hg⟩
        · exact h.ok y (hjy ▸ List.getElem_mem _), foot_set hi rfl h.dis⟩
    have hi1 : (L.set i (.blk gb (.cells cur e (0, 0))))[i]? = some (.blk gb (.cells cur e (0, 0))) := by rw [List.getElem?_set_self hil]
    have h3 := h1.set (c' := cur') hi1
    rw [List.set_set] at h3
    have hi3 : (L.set i (.blk gb (.cells cur' e (0, 0))))[i]? = some (.blk gb (.cells cur' e (0, 0))) := by rw [List.getElem?_set_self hil]
    have h4 : Hp w0 (w.setRow gb cur') ((L.set i (.blk gb (.cells cur' e (0, 0)))).set i (.row (.slice (some ⟨gb, 0, none⟩) n cap) e sz n (cur'.toList.take (n * sz)))) := ⟨h3.below, fun y hy => by
        obtain ⟨j, hj, hjy⟩ := List.mem_iff_getElem.1 hy
        rw [List.getElem_set] at hjy
        split at hjy
        · subst hjy
          have hb3 := h3.get hi3
          refine ⟨?_, .inr ⟨gb, cap, cur', rfl, hb3.1, hb3.2, hnc, hm, by rw [hc', hs], rfl⟩⟩
          rw [List.length_take, Nat.min_eq_left]
          have : cur'.toList.length = cap * sz := by rw [Array.length_toList, hc', hs]
          rw [this]; exact Nat.mul_le_mul_right _ hnc
        · exact h3.ok y (hjy ▸ List.getElem_mem _), foot_set hi3 rfl h3.dis⟩
    rw [List.set_set] at h4; exact h4
def putL (xs : List Value) (o : Nat) (new : List Value) : List Value := xs.take o ++ new ++ xs.drop (o + new.length)
theorem take_put {cur new : List Value} {o m : Nat} (h : o + new.length ≤ m) (hm : m ≤ cur.length) : (cur.take o ++ new ++ cur.drop (o + new.length)).take m = putL (cur.take m) o new := by
  rw [putL, List.take_append, List.take_append, List.take_of_length_le (l := new) (by simp only [List.length_take]; omega), List.take_take, List.take_take, Nat.min_eq_right (by omega), Nat.min_eq_left (by omega)]
  congr 1
  simp only [List.length_append, List.length_take]
  rw [List.drop_take, show min o cur.length + new.length = o + new.length by omega]
section
variable {P : Program} {n : Nat} {ops : Array Oper} {k : K} {rest l : List Oper} {σ : Env} {w0 w : World} {L : List Ent} {op : Op} {ty t e et : TypeId} {pos : String} {aft : Array Edge} {d : Nat} {x y : Operand} {g : Option (Nat × Bool)} {v : Value} {sz m i : Nat} {xs : List Value} {dst : Option Tmp}
variable {fuel j : Nat} {listed : Array Bool} {L' : List Ent}
def fromV (v : Value) (sz i : Nat) : Value :=
  match v with
  | .slice a n cap => .slice (if cap = i then a else a.map (·.add (i * sz))) (n - i) (cap - i)
  | v => v
theorem Sl.fr {cells : List Value} (h : Sl w v sz m cells) (o : Nat) (ho : o ≤ m) : Sl w (fromV v sz o) sz (m - o) (cells.drop (o * sz)) := by
  obtain ⟨a, cap, rfl, hcap, ha⟩ := h.shape
  have hl := h.len
  refine ⟨?_, by rw [List.length_drop, hl, Nat.sub_mul], fun j c hj => ?_, by have := h.small; omega⟩
  · by_cases h0 : 0 < m - o
    · have h1 := ha (by omega)
      have hco : ¬ cap = o := by omega
      refine ⟨_, cap - o, rfl, by omega, fun _ => ?_⟩
      rw [h1]; simp only [fromV, if_neg hco, Option.map_some, add_ad, sb, so]
    · exact ⟨_, cap - o, rfl, by omega, fun h => absurd h h0⟩
  · have h0 : 0 < m - o := by
      rcases Nat.eq_zero_or_pos (m - o) with h0 | h0
      · rw [List.drop_eq_nil_of_le (by rw [hl]; exact Nat.mul_le_mul_right _ (by omega))] at hj; cases hj
      · exact h0
    rw [List.getElem?_drop] at hj
    have h1 := ha (by omega)
    have h2 := h.cell _ _ hj
    have hco : ¬ cap = o := by omega
    have e1 : sb (fromV (.slice a m cap) sz o) = sb (.slice a m cap) := by rw [h1]; simp only [fromV, if_neg hco, Option.map_some, add_ad, sb, so]
    have e2 : so (fromV (.slice a m cap) sz o) = so (.slice a m cap) + o * sz := by rw [h1]; simp only [fromV, if_neg hco, Option.map_some, add_ad, sb, so]
    rw [e1, e2, Nat.add_assoc]; exact h2
theorem run_from {lo : Operand} {q : Int} {cells : List Value} (hS : Sl w v sz m cells) (hu : P.underlying t = some (.slice et)) (hs : ∀ w, (sizeOf et).run P w = .ok sz w) (hx : ev σ x = v) (hlo : ev σ lo = I q) (h : 0 ≤ q ∧ q ≤ m) :
    (execOp (ev σ) ⟨dst, .slice t x (some lo) none none, ty, pos, aft, g⟩).run P w = .ok (.value (fromV v sz q.toNat)) w := by
  obtain ⟨a, cap, rfl, hcap, ha⟩ := hS.shape
  have h1 : 0 ≤ q ∧ q ≤ (m : Int) := h
  have h2 : (Instr.slice t (.slice a m cap) (some (I q)) none none).run P w = .ok (fromV (.slice a m cap) sz q.toNat) w := by
    simp [Instr.slice, Instr.sliceBounds, Instr.sliceBound, run_underlying hu, asIntOf, h1, hs, fromV]
  have h3 : (Instr.sliceAt t (.slice a m cap) (some (I q)) none none).run P w = .ok (fromV (.slice a m cap) sz q.toNat) w := by
    simp [Instr.sliceAt, run_underlying hu, h2]
  simp [execOp, hx, hlo, h3]
end
end Go.Proofs.YtdfbimlpondblaaGreatDoor.E
