/-
  Maps of elements by names: what is looked up, laid, and gone through.
-/
import Derived.Test.YtkdbiooamgnfmaaGreatDoorHol
import Derived.MapKept
import Derived.Laws.IdiomRangeMap
namespace Go.Proofs.YtkdbiooamgnfmaaGreatDoor.E
open Go Go.RowKit Go.Proofs.YtkdbiooamgnfmaaGreatDoor.M
set_option linter.unusedVariables false
set_option linter.unusedSimpArgs false
section
variable {w0 w : World} {L : List Ent}
theorem below_setObj {B : Nat} {a : World} (h : Below B a w) {b : Nat} (hb : B ≤ b) (o : Obj) : Below B a { w with heap := w.heap.setIfInBounds b o } :=
  h.trans ⟨rfl, rfl, rfl, by simp, fun k hk => by
    show (w.heap.setIfInBounds b o)[k]? = _
    rw [Array.getElem?_setIfInBounds, if_neg (by omega)]⟩
theorem Hp.setObj {i b : Nat} {o : Obj} (h : Hp w0 w L) (hi : L[i]? = some (.blk b o)) (o' : Obj) : Hp w0 { w with heap := w.heap.setIfInBounds b o' } (L.set i (.blk b o')) := by
  have hx := h.ok _ (List.mem_of_getElem? hi)
  have hil := (List.getElem?_eq_some_iff.1 hi).1
  have hb := (Array.getElem?_eq_some_iff.1 hx.2).1
  refine ⟨below_setObj h.below hx.1 o', fun y hy => ?_, foot_set hi rfl h.dis⟩
  obtain ⟨j, hj, hjy⟩ := List.mem_iff_getElem.1 hy
  rw [List.getElem_set] at hjy
  split at hjy
  · subst hjy
    refine ⟨hx.1, ?_⟩
    show (w.heap.setIfInBounds b o')[b]? = _
    rw [Array.getElem?_setIfInBounds, if_pos rfl, if_pos hb]
  · rename_i hne
    have hjL : j < L.length := by simpa using hj
    have hyL : y ∈ L := hjy ▸ List.getElem_mem hjL
    refine Ent.ok_same (h.ok y hyL) fun bb hf => ?_
    have hbb : b ≠ bb := fun hbb => by
      subst hbb
      have hp := List.pairwise_iff_getElem.1 h.dis
      have hLi : L[i] = .blk b o := (List.getElem?_eq_some_iff.1 hi).2
      rcases Nat.lt_or_gt_of_ne hne with hlt | hgt
      · rcases hp i j hil hjL hlt with h0 | h0
        · rw [hLi] at h0; cases h0
        · rw [hLi, hjy, hf] at h0; exact h0 rfl
      · rcases hp j i hjL hil hgt with h0 | h0
        · rw [hjy, hf] at h0; cases h0
        · rw [hLi, hjy, hf] at h0; exact h0 rfl
    show (w.heap.setIfInBounds b o')[bb]? = _
    rw [Array.getElem?_setIfInBounds, if_neg hbb]
end
structure MpIs (es : Array MapEntry) (clock : Nat) (kv : List (Tx × El)) : Prop where
  at_ : es.toList.map (fun e => (e.key, e.val)) = kv.map fun p => (S p.1, Value.agg (elC p.2))
  born : (es.toList.map (·.born)).Nodup
  old : ∀ x ∈ es.toList, x.born < clock
  once : (kv.map Prod.fst).Nodup
theorem mp_nil : MpIs #[] 0 [] := ⟨rfl, by simp, by simp, by simp⟩
theorem S_inj {a b : Tx} (h : S a = S b) : a = b := by injection h
section
variable {es : Array MapEntry} {clock : Nat} {kv : List (Tx × El)}
theorem MpIs.get (h : MpIs es clock kv) {j : Nat} {e : MapEntry} (he : es.toList[j]? = some e) : ∃ p, kv[j]? = some p ∧ e.key = S p.1 ∧ e.val = .agg (elC p.2) := by
  have := congrArg (·[j]?) h.at_
  simp only [List.getElem?_map, he, Option.map_some] at this
  cases hk : kv[j]? with
  | none => rw [hk] at this; cases this
  | some p => rw [hk] at this; injection this with q; injection q with q1 q2; exact ⟨p, rfl, q1, q2⟩
theorem MpIs.size (h : MpIs es clock kv) : es.size = kv.length := by
  have := congrArg List.length h.at_
  simpa using this
theorem MpIs.keys (h : MpIs es clock kv) : ∀ x ∈ es.toList, MapKept.IsKey .string x.key := fun x hx => by
  obtain ⟨j, hj⟩ := List.mem_iff_getElem?.1 hx
  obtain ⟨p, _, hk, _⟩ := h.get hj
  rw [hk]; trivial
theorem look_mem {f : Tx} {e : El} (h : (kv.map Prod.fst).Nodup) (hm : (f, e) ∈ kv) : lookK kv f = (e, true) := by
  unfold lookK
  cases hc : kv.find? (fun p => decide (p.1 = f)) with
  | none => rw [List.find?_eq_none] at hc; exact absurd (decide_eq_true (rfl : f = f)) (hc _ hm)
  | some p =>
    have hp := List.mem_of_find?_eq_some hc
    have hn : p.1 = f := by simpa using List.find?_some hc
    obtain ⟨i, hi, ei⟩ := List.getElem_of_mem hp
    obtain ⟨j, hj, ej⟩ := List.getElem_of_mem hm
    have hij : i = j := by
      rw [List.Nodup, List.pairwise_map] at h
      rcases Nat.lt_trichotomy i j with c | c | c
      · exact absurd (by rw [ei, ej]; exact hn) (List.pairwise_iff_getElem.1 h i j hi hj c)
      · exact c
      · exact absurd (by rw [ei, ej]; exact hn.symm) (List.pairwise_iff_getElem.1 h j i hj hi c)
    subst hij
    rw [← ei, ej]
theorem look_no {f : Tx} (h : ∀ p ∈ kv, p.1 ≠ f) : lookK kv f = (el0, false) := by
  unfold lookK
  have : kv.find? (fun p => decide (p.1 = f)) = none := by rw [List.find?_eq_none]; intro x hx; simpa using h x hx
  rw [this]
theorem MpIs.find (h : MpIs es clock kv) (f : Tx) : (Instr.findNow .string (S f) es.toList 0 = some none ∧ lookK kv f = (el0, false) ∧ ∀ p ∈ kv, p.1 ≠ f) ∨
    ∃ j e el, Instr.findNow .string (S f) es.toList 0 = some (some (j, .agg (elC el))) ∧ es.toList[j]? = some e ∧ e.key = S f ∧ kv[j]? = some (f, el) ∧ lookK kv f = (el, true) := by
  rcases MapKept.findNow_spec (d := .string) (k := S f) trivial es.toList 0 h.keys with ⟨h1, h2⟩ | ⟨j, e, h1, h2, h3⟩
  · have hno : ∀ p ∈ kv, p.1 ≠ f := fun p hp q => by
      obtain ⟨j, hj⟩ := List.mem_iff_getElem?.1 hp
      have hlt : j < es.toList.length := by
        have := (List.getElem?_eq_some_iff.1 hj).1
        have e := h.size
        simp; omega
      obtain ⟨p', hp', hk, _⟩ := h.get (List.getElem?_eq_getElem hlt)
      rw [hj] at hp'; injection hp' with hp'; subst hp'
      exact h2 _ (List.getElem_mem hlt) (by rw [hk, q])
    exact .inl ⟨h1, look_no hno, hno⟩
  · obtain ⟨p, hp, hk, hv⟩ := h.get h2
    have hf : p.1 = f := S_inj (hk.symm.trans h3)
    have hp' : kv[j]? = some (f, p.2) := by rw [hp, ← hf]
    exact .inr ⟨j, e, p.2, by rw [h1, hv, Nat.zero_add], h2, h3, hp', look_mem h.once (List.mem_of_getElem? hp')⟩
end
section
variable {P : Program} {n : Nat} {ops : Array Oper} {k : K} {rest : List Oper} {σ : Env} {w0 w : World} {L : List Ent} {ty : TypeId} {pos : String} {aft : Array Edge} {d : Nat} {dst : Option Tmp} {g : Option (Nat × Bool)} {x y z : Operand} {t kt et : TypeId} {es : Array MapEntry} {clock b : Nat} {kv : List (Tx × El)} {f : Tx}
theorem run_makeMap : (execOp (ev σ) ⟨dst, .makeMap t none, ty, pos, aft, g⟩).run P w = .ok (.value (.map (some w.heap.size))) (w.alloc (.map #[] 0)) := by
  simp [execOp, Instr.makeMap, Result.andThen]
theorem run_lookup2 (hu : P.underlying t = some (.map kt et)) (hk : P.underlying kt = some .string) (hz : ∀ w, (zeroValue et).run P w = .ok (.agg (elC el0)) w) (hx : ev σ x = .map (some b)) (hy : ev σ y = S f) (hb : w.heap[b]? = some (.map es clock)) (h : MpIs es clock kv) :
    (execOp (ev σ) ⟨dst, .lookup t x y true, ty, pos, aft, g⟩).run P w = .ok (.value (.tuple #[.agg (elC (lookK kv f).1), B (lookK kv f).2])) w := by
  have hc : ∀ e m, (Instr.checkKey e (m + 1) kt (S f)).run P w = .ok () w := fun e m => MapKept.run_checkKey hk (show MapKept.IsKey .string (S f) from trivial) e m
  rcases h.find f with ⟨h1, h2, _⟩ | ⟨j, e, el, h1, _, _, _, h2⟩
  · rw [h2]; simp [execOp, Instr.lookup, run_underlying hu, hx, hy, MapKept.run_getObj_map hb, hc, MapKept.run_findKey hk h1, hz, Result.andThen]
  · rw [h2]; simp [execOp, Instr.lookup, run_underlying hu, hx, hy, MapKept.run_getObj_map hb, hc, MapKept.run_findKey hk h1, Result.andThen]
theorem run_lookup1 (hu : P.underlying t = some (.map kt et)) (hk : P.underlying kt = some .string) (hz : ∀ w, (zeroValue et).run P w = .ok (.agg (elC el0)) w) (hx : ev σ x = .map (some b)) (hy : ev σ y = S f) (hb : w.heap[b]? = some (.map es clock)) (h : MpIs es clock kv) :
    (execOp (ev σ) ⟨dst, .lookup t x y false, ty, pos, aft, g⟩).run P w = .ok (.value (.agg (elC (lookK kv f).1))) w := by
  have hc : ∀ e m, (Instr.checkKey e (m + 1) kt (S f)).run P w = .ok () w := fun e m => MapKept.run_checkKey hk (show MapKept.IsKey .string (S f) from trivial) e m
  rcases h.find f with ⟨h1, h2, _⟩ | ⟨j, e, el, h1, _, _, _, h2⟩
  · rw [h2]; simp [execOp, Instr.lookup, run_underlying hu, hx, hy, MapKept.run_getObj_map hb, hc, MapKept.run_findKey hk h1, hz, Result.andThen]
  · rw [h2]; simp [execOp, Instr.lookup, run_underlying hu, hx, hy, MapKept.run_getObj_map hb, hc, MapKept.run_findKey hk h1, Result.andThen]
theorem run_mapUp {e : El} (hu : P.underlying t = some (.map kt et)) (hk : P.underlying kt = some .string) (hx : ev σ x = .map (some b)) (hy : ev σ y = S f) (hz : ev σ z = .agg (elC e)) (hb : w.heap[b]? = some (.map es clock)) (h : MpIs es clock kv) :
    ∃ es' clock', (execOp (ev σ) ⟨none, .mapUpdate t x y z, ty, pos, aft, g⟩).run P w = .ok .skip { w with heap := w.heap.setIfInBounds b (.map es' clock') } ∧ MpIs es' clock' (putK kv f e) := by
  have hc : ∀ e m, (Instr.checkKey e (m + 1) kt (S f)).run P w = .ok () w := fun e m => MapKept.run_checkKey hk (show MapKept.IsKey .string (S f) from trivial) e m
  rcases h.find f with ⟨h1, h2, h3⟩ | ⟨j, e0, el, h1, hj, hk0, hj2, h2⟩
  · refine ⟨es.push ⟨S f, .agg (elC e), clock⟩, clock + 1, ?_, ?_⟩
    · simp [execOp, Instr.mapUpdate, run_underlying hu, hx, hy, hz, MapKept.run_getObj_map hb, hc, MapKept.run_findKey hk h1, MapKept.run_setObj_map _ hb, Result.andThen]
    · rw [putK, h2, if_neg (by simp)]
      refine ⟨by simp [h.at_], ?_, ?_, ?_⟩
      · rw [Array.toList_push, List.map_append, List.nodup_append]
        refine ⟨h.born, by simp, fun a ha c hc => ?_⟩
        simp at hc; subst hc
        obtain ⟨q, hq, rfl⟩ := List.mem_map.1 ha
        have := h.old q hq; omega
      · intro q hq
        rw [Array.toList_push, List.mem_append, List.mem_singleton] at hq
        rcases hq with hq | rfl
        · have := h.old q hq; omega
        · exact Nat.lt_succ_self _
      · rw [List.map_append, List.nodup_append]
        refine ⟨h.once, by simp, fun a ha c hc => ?_⟩
        simp at hc; subst hc
        obtain ⟨q, hq, rfl⟩ := List.mem_map.1 ha
        exact h3 q hq
  · have hj' : es[j]? = some e0 := by simpa using hj
    refine ⟨es.modify j fun e1 => { e1 with key := S f, val := .agg (elC e) }, clock, ?_, ?_⟩
    · have hs : (Instr.keyThatStays (S f) (S f)).run P w = .ok (S f) w := MapKept.run_keyThatStays (d := .string) trivial
      simp [execOp, Instr.mapUpdate, run_underlying hu, hx, hy, hz, MapKept.run_getObj_map hb, hc, MapKept.run_findKey hk h1, hj', hk0, hs, MapKept.run_setObj_map _ hb, Result.andThen]
    · rw [putK, h2, if_pos rfl]
      have hb2 : (es.modify j fun e1 => { e1 with key := S f, val := .agg (elC e) }).toList.map (·.born) = es.toList.map (·.born) := by
        apply List.ext_getElem?
        intro i
        simp only [List.getElem?_map, Array.getElem?_toList, Array.getElem?_modify]
        split
        · cases es[i]? <;> rfl
        · rfl
      have ho : ((kv.map fun p => if p.1 = f then (f, e) else p).map Prod.fst) = kv.map Prod.fst := by
        rw [List.map_map]
        refine List.map_congr_left fun p _ => ?_
        show (if p.1 = f then (f, e) else p).1 = p.1
        split
        · rename_i q; exact q.symm
        · rfl
      refine ⟨?_, by rw [hb2]; exact h.born, fun q hq => ?_, by rw [ho]; exact h.once⟩
      · apply List.ext_getElem?
        intro i
        simp only [List.getElem?_map, Array.getElem?_toList, Array.getElem?_modify]
        have hi := congrArg (·[i]?) h.at_
        simp only [List.getElem?_map, Array.getElem?_toList] at hi
        by_cases hij : j = i
        · subst hij
          rw [hj', hj2]; simp
        · rw [if_neg hij]
          rw [hi]
          cases hp : kv[i]? with
          | none => rfl
          | some p =>
            have hne : p.1 ≠ f := fun q => hij (by
              have ho := h.once
              rw [List.Nodup, List.pairwise_map] at ho
              obtain ⟨hi2, ei⟩ := List.getElem?_eq_some_iff.1 hp
              obtain ⟨hj3, ej⟩ := List.getElem?_eq_some_iff.1 hj2
              rcases Nat.lt_trichotomy i j with c | c | c
              · exact absurd (by rw [ei, ej]; exact q) (List.pairwise_iff_getElem.1 ho i j hi2 hj3 c)
              · exact c.symm
              · exact absurd (by rw [ei, ej]; exact q.symm) (List.pairwise_iff_getElem.1 ho j i hj3 hi2 c))
            simp [hne]
      · have : q.born ∈ (es.modify j fun e1 => { e1 with key := S f, val := .agg (elC e) }).toList.map (·.born) := List.mem_map.2 ⟨q, hq, rfl⟩
        rw [hb2] at this
        obtain ⟨y, hy, ey⟩ := List.mem_map.1 this
        rw [← ey]; exact h.old y hy
theorem RL.mapUp {i : Nat} {e : El} (hH : Hp w0 w L) (hi : L[i]? = some (.blk b (.map es clock))) (h : MpIs es clock kv) (hu : P.underlying t = some (.map kt et)) (hk : P.underlying kt = some .string) (hx : ev σ x = .map (some b)) (hy : ev σ y = S f) (hz : ev σ z = .agg (elC e))
    (hn : ∀ w' es' clock', MpIs es' clock' (putK kv f e) → Hp w0 w' (L.set i (.blk b (.map es' clock'))) → RL P n ops k rest σ w') : RL P n ops k (⟨none, .mapUpdate t x y z, ty, pos, aft, none⟩ :: rest) σ w := by
  obtain ⟨es', clock', hr, h'⟩ := run_mapUp hu hk hx hy hz (hH.blk hi) h
  exact RL.eff hr (hn _ es' clock' h' (hH.setObj hi _))
theorem run_range (hu : P.underlying t = some (.map kt et)) (hx : ev σ x = .map (some b)) (hb : w.heap[b]? = some (.map es clock)) :
    (execOp (ev σ) ⟨dst, .range t x, ty, pos, aft, g⟩).run P w = .ok (.value (.pointer (some ⟨w.heap.size, 0, none⟩))) (w.alloc (.mapIter (some b) clock #[] clock)) := by
  simp [execOp, Instr.range, run_underlying hu, hx, MapKept.run_getObj_map hb, Result.andThen]
theorem RL.next {i bi since c0 : Nat} {seen : Array Nat} (hd : Nat.blt d n = true) (hH : Hp w0 w L) (hi : L[i]? = some (.blk bi (.mapIter (some b) since seen c0))) (hb : w.heap[b]? = some (.map es clock)) (hold : ∀ x ∈ es.toList, x.born < since) (hsc : since ≤ c0) (hx : ev σ x = .pointer (some ⟨bi, 0, none⟩))
    (h1 : (leftOf es seen).size = 0 → RL P n ops k rest (upd σ d (.tuple #[B false])) w)
    (h2 : ∀ e ∈ (leftOf es seen).toList, ∀ w', Hp w0 w' (L.set i (.blk bi (.mapIter (some b) since (seen.push e.born) clock))) → RL P n ops k rest (upd σ d (.tuple #[B true, e.key, e.val])) w') :
    RL P n ops k (⟨some d, .next x false, ty, pos, aft, none⟩ :: rest) σ w := by
  have hbi := hH.blk hi
  have key : ((leftOf es seen).size = 0 ∧ (Instr.next (.pointer (some ⟨bi, 0, none⟩)) false ty).run P w = .ok (.tuple #[.bool false]) w) ∨
      ∃ e ∈ (leftOf es seen).toList, ∃ w1 : World, (w1 = w ∨ w1 = w.drew) ∧ (Instr.next (.pointer (some ⟨bi, 0, none⟩)) false ty).run P w = .ok (.tuple #[.bool true, e.key, e.val]) { w1 with heap := w1.heap.setIfInBounds bi (.mapIter (some b) since (seen.push e.born) clock) } := by
    simp only [Instr.next, getObj, Sem.run_bind, Sem.run, hbi, hb, Result.andThen, next_test_false seen es since c0 hold hsc, Bool.false_eq_true, if_false]
    unfold leftOf
    have hmem : ∀ x ∈ (Array.filter (fun e => !seen.contains e.born) es).toList, x.born < since := fun x hx => hold x (by simp at hx ⊢; exact hx.1)
    generalize Array.filter (fun e => !seen.contains e.born) es = Q at hmem ⊢
    have e1 : Q.filter (fun x => decide (x.born < since)) = Q := Array.filter_eq_self.2 (fun x hx => by simpa using hmem x (by simpa using hx))
    have e2 : Q.filter (fun x => decide (x.born ≥ since)) = #[] := by
      rw [Array.filter_eq_empty_iff]
      intro x hx
      have := hmem x (by simpa using hx)
      simp
      omega
    simp only [e1, e2, Array.append_empty]
    by_cases h0 : Q.size = 0
    · left
      have : Q = #[] := Array.eq_empty_of_size_eq_zero h0
      subst this
      refine ⟨rfl, ?_⟩
      simp [choose, Sem.run, Question.forced]
    · right
      have hne : Q.isEmpty = false := by simp [Array.isEmpty, h0]
      simp only [hne, Bool.false_eq_true, if_false, Array.empty_append, Array.size_map]
      have hch : ∃ (j : Nat) (w1 : World), j < Q.size ∧ (w1 = w ∨ w1 = w.drew) ∧ (choose (Question.mapNext Q.size)).run P w = .ok j w1 := by
        by_cases hf : Q.size ≤ 1
        · exact ⟨0, w, by omega, .inl rfl, by simp [choose, Sem.run, Question.forced, hf]⟩
        · exact ⟨_, w.drew, Nat.mod_lt _ (by omega), .inr rfl, by
            simp only [choose, Sem.run, Question.forced, decide_eq_true_eq, hf, if_false, Question.cut]
            rfl⟩
      obtain ⟨j, w1, hj, hal, hrun⟩ := hch
      refine ⟨Q[j], by simp, w1, hal, ?_⟩
      have hb1 : w1.heap[bi]? = some (.mapIter (some b) since seen c0) := by rcases hal with rfl | rfl <;> exact hbi
      simp only [hrun, Array.getElem?_map, Array.getElem?_eq_getElem hj, Option.map_some, Sem.run_bind, Result.andThen]
      simp [setObj, Sem.run, hb1]
  rcases key with ⟨h0, hr⟩ | ⟨e, he, w1, hw, hr⟩
  · exact RL.val hd (by simp [execOp, hx, hr, Result.andThen]) (h1 h0)
  · refine RL.val (w' := { w1 with heap := w1.heap.setIfInBounds bi (.mapIter (some b) since (seen.push e.born) clock) }) hd (by simp [execOp, hx, hr, Result.andThen]) (h2 e he _ (Hp.setObj (o := .mapIter (some b) since seen c0) ?_ hi _))
    rcases hw with rfl | rfl
    · exact hH
    · exact hH.drew
end
/-! ### What has been gathered -/
def pairV (v : ValR) : Tx × El := (v.name, v.el)
def GSt (its : List ValR) (g o : Bool) (kv : List (Tx × El)) : Prop := o = (g && onceV its) ∧ (o = true → kv = its.map pairV)
theorem look_has {kv : List (Tx × El)} {n : Tx} : (lookK kv n).2 = true ↔ n ∈ kv.map Prod.fst := by
  unfold lookK
  constructor
  · intro h
    cases hc : kv.find? (fun p => decide (p.1 = n)) with
    | none => rw [hc] at h; cases h
    | some p => exact List.mem_map.2 ⟨p, List.mem_of_find?_eq_some hc, by simpa using List.find?_some hc⟩
  · intro h
    obtain ⟨p, hp, e⟩ := List.mem_map.1 h
    cases hc : kv.find? (fun p => decide (p.1 = n)) with
    | none => rw [List.find?_eq_none] at hc; exact absurd e (by simpa using hc p hp)
    | some p => rfl
theorem gst_0 (g : Bool) : GSt [] g g [] := ⟨by cases g <;> rfl, fun _ => rfl⟩
theorem gst_next {its : List ValR} {g o s : Bool} {kv : List (Tx × El)} {v : ValR} (h : GSt its g o kv) : GSt (its ++ [v]) (g && s) (o && s && !(lookK kv v.name).2) (putK kv v.name v.el) := by
  obtain ⟨h1, h2⟩ := h
  cases ho : o with
  | false =>
    rw [ho] at h1
    refine ⟨?_, fun q => by cases q⟩
    cases hg : g with
    | false => rfl
    | true =>
      rw [hg] at h1
      have hn : onceV (its ++ [v]) = false := decide_eq_false fun hn => by
        have h3 : (vnames its).Nodup := by
          unfold vnames at *
          rw [List.map_append, List.nodup_append] at hn; exact hn.1
        rw [onceV, decide_eq_true h3] at h1; cases h1
      rw [hn]; simp
  | true =>
    rw [ho] at h1 h2
    have hkv := h2 rfl
    have h3 : g = true ∧ onceV its = true := Bool.and_eq_true_iff.1 h1.symm
    have hnd : (vnames its).Nodup := of_decide_eq_true h3.2
    have hk : kv.map Prod.fst = vnames its := by rw [hkv, List.map_map]; rfl
    cases hc : (lookK kv v.name).2 with
    | true =>
      have hm : v.name ∈ vnames its := by rw [← hk]; exact look_has.1 hc
      have hn : onceV (its ++ [v]) = false := once_no hm
      unfold GSt
      rw [hn]
      exact ⟨by simp, fun q => by simp at q⟩
    | false =>
      have hm : v.name ∉ vnames its := fun q => by rw [← hk] at q; rw [look_has.2 q] at hc; cases hc
      have hn : onceV (its ++ [v]) = true := decide_eq_true (onceV_snoc hnd hm)
      unfold GSt
      rw [hn, h3.1]
      refine ⟨by simp, fun _ => ?_⟩
      rw [putK, hc, if_neg (by simp), hkv, List.map_append]; rfl
def preV (a : As) (t : RowR) : List ValR := if t.tail < a.rows.length then tailV a t else []
theorem pre_1 {a : As} {t : RowR} (h : t.tail < a.rows.length) (h2 : ¬ t.tail < 0) {k : Int} (hk : ¬ k < (a.rows.getD t.tail.toNat []).length) : (a.rows.getD t.tail.toNat []).take k.toNat = preV a t := by
  rw [preV, if_pos h, tailV, if_pos (by omega), List.take_of_length_le (by omega)]
theorem pre_2 {a : As} {t : RowR} (h : ¬ t.tail < a.rows.length) : [] = preV a t := by rw [preV, if_neg h]
theorem pre_3 {a : As} {t : RowR} (h2 : t.tail < 0) : [] = preV a t := by
  rw [preV]; split
  · rw [tailV, if_neg (by omega)]
  · rfl
theorem gst_end {a : As} {t : RowR} {k : Int} {o : Bool} {kv : List (Tx × El)} (hk : ¬ k < t.fields.length) (h : GSt (preV a t ++ (t.fields.take k.toNat).map (valF a)) (decide (t.tail < a.rows.length) && (t.fields.take k.toNat).all fun f => (atomF a f.at_).2) o kv) :
    o = (allOk a t && onceV (allV a t)) ∧ (o = true → kv = (allV a t).map pairV) := by
  rw [List.take_of_length_le (by omega)] at h
  obtain ⟨h1, h2⟩ := h
  by_cases c : t.tail < a.rows.length
  · have e : preV a t = tailV a t := if_pos c
    rw [e] at h1 h2
    exact ⟨by rw [h1]; rfl, h2⟩
  · rw [decide_eq_false c, Bool.false_and, Bool.false_and] at h1
    rw [h1, allOk, decide_eq_false c]
    exact ⟨rfl, fun q => by cases q⟩
theorem gst_i1 {a : Asg} {t : RowR} {its : List ValR} {o : Bool} {kv : List (Tx × El)} (h : GSt its true o kv) (e : its = preV a.as t) (c : t.tail < (a.rows.length : Int)) :
    GSt (preV a.as t ++ (t.fields.take (0 : Int).toNat).map (valF a.as)) (decide (t.tail < (a.as.rows.length : Int)) && (t.fields.take (0 : Int).toNat).all fun f => (atomF a.as f.at_).2) o kv := by
  rw [as_rows_len, decide_eq_true c, ← e]
  simp only [Int.toNat_zero, List.take_zero, List.map_nil, List.append_nil, List.all_nil]
  exact h
theorem gst_i2 {a : Asg} {t : RowR} (e : [] = preV a.as t) :
    GSt (preV a.as t ++ (t.fields.take (0 : Int).toNat).map (valF a.as)) (decide (t.tail < (a.as.rows.length : Int)) && (t.fields.take (0 : Int).toNat).all fun f => (atomF a.as f.at_).2) (decide (t.tail < (a.rows.length : Int))) [] := by
  rw [as_rows_len, ← e]
  simp only [Int.toNat_zero, List.take_zero, List.map_nil, List.append_nil, List.all_nil, Bool.and_true]
  exact gst_0 _
theorem pre_1a {a : Asg} {t : RowR} (h : t.tail < (a.rows.length : Int)) (h2 : 0 ≤ t.tail) {k : Int} (hk : ¬ k < ((a.rows.getD t.tail.toNat vr0).l.length : Int)) : (a.rows.getD t.tail.toNat vr0).l.take k.toNat = preV a.as t := by
  rw [← as_row] at hk ⊢
  exact pre_1 (by rw [as_rows_len]; exact h) (by omega) hk
theorem pre_2a {a : Asg} {t : RowR} (h : ¬ t.tail < (a.rows.length : Int)) : [] = preV a.as t := pre_2 (by rw [as_rows_len]; exact h)
theorem take_snoc {α : Type} {l : List α} {d : α} {k : Int} (h0 : 0 ≤ k) (h1 : k < l.length) : l.take (k + 1).toNat = l.take k.toNat ++ [l.getD k.toNat d] := by
  have h2 : k.toNat < l.length := by omega
  rw [show (k + 1).toNat = k.toNat + 1 by omega, List.take_add_one, List.getD_eq_getElem?_getD, List.getElem?_eq_getElem h2]; rfl
theorem all_snoc {α : Type} {l : List α} {x : α} {p : α → Bool} : (l ++ [x]).all p = (l.all p && p x) := by rw [List.all_append]; simp
theorem rm_yes {a : As} {t : RowR} {o : Bool} {kv : List (Tx × El)} (h : o = (allOk a t && onceV (allV a t))) (ho : o = true) (hkv : o = true → kv = (allV a t).map pairV) {ns : List Tx} (hn : ∀ x, x ∈ ns ↔ x ∈ kv.map Prod.fst) :
    rowM a t = ((sortN ns).map (fun n => (⟨n, (lookK kv n).1⟩ : ValR)), true) := by
  rw [ho] at h
  have h2 := Bool.and_eq_true_iff.1 h.symm
  have hk := hkv ho
  have hk2 : kv.map Prod.fst = vnames (allV a t) := by rw [hk, List.map_map]; rfl
  rw [rw_yes h2.1 h2.2, hk]
  congr 1
  exact (row_laid (of_decide_eq_true h2.2) fun x => by rw [hn, hk2]).symm
section
variable {P : Program} {n : Nat} {ops : Array Oper} {k : K} {rest : List Oper} {σ : Env} {w0 w : World} {L : List Ent} {ty : TypeId} {pos : String} {aft : Array Edge} {d : Nat} {dst : Option Tmp} {g : Option (Nat × Bool)} {x : Operand} {es : Array MapEntry} {clock b : Nat} {kv : List (Tx × El)}
def Seen (es : Array MapEntry) (kv : List (Tx × El)) (seen : Array Nat) (ns : List Tx) : Prop :=
  (∀ t ∈ ns, t ∈ kv.map Prod.fst) ∧ (∀ e ∈ es.toList, seen.contains e.born = true → ∃ t ∈ ns, e.key = S t) ∧ ns.length + (leftOf es seen).size ≤ es.size
theorem seen_0 : Seen es kv #[] [] := ⟨fun t ht => (by cases ht), fun e _ h => by simp at h, by
  have : (leftOf es #[]).size ≤ es.size := Array.size_filter_le ..
  simpa using this⟩
theorem seen_next {seen : Array Nat} {ns : List Tx} {e : MapEntry} {q : Tx × El} (hb : (es.toList.map (·.born)).Nodup) (h : Seen es kv seen ns) (he : e ∈ (leftOf es seen).toList) (hq : q ∈ kv) (hk : e.key = S q.1) : Seen es kv (seen.push e.born) (ns ++ [q.1]) ∧ (leftOf es (seen.push e.born)).size < (leftOf es seen).size := by
  have hs := left_shrinks es seen e he
  refine ⟨⟨fun t ht => ?_, fun e' he' hc => ?_, by rw [List.length_append, List.length_singleton]; have := h.2.2; omega⟩, hs⟩
  · rcases List.mem_append.1 ht with ht | ht
    · exact h.1 t ht
    · rw [List.mem_singleton.1 ht]; exact List.mem_map.2 ⟨q, hq, rfl⟩
  · rw [contains_push, Bool.or_eq_true] at hc
    rcases hc with hc | hc
    · obtain ⟨t, ht, e2⟩ := h.2.1 e' he' hc
      exact ⟨t, List.mem_append_left _ ht, e2⟩
    · by_cases hs2 : seen.contains e'.born = true
      · obtain ⟨t, ht, e2⟩ := h.2.1 e' he' hs2
        exact ⟨t, List.mem_append_left _ ht, e2⟩
      · have hbe : e'.born = e.born := by simpa using hc
        have : e' = e := born_inj hb he' (mem_left he).1 hbe
        exact ⟨q.1, by simp, by rw [this]; exact hk⟩
theorem seen_all {seen : Array Nat} {ns : List Tx} (hm : MpIs es clock kv) (h : Seen es kv seen ns) (h0 : (leftOf es seen).size = 0) : ∀ t, t ∈ ns ↔ t ∈ kv.map Prod.fst := fun t => ⟨h.1 t, fun ht => by
  obtain ⟨p, hp, rfl⟩ := List.mem_map.1 ht
  obtain ⟨j, hj⟩ := List.mem_iff_getElem?.1 hp
  have hlt : j < es.toList.length := by
    have := (List.getElem?_eq_some_iff.1 hj).1
    have e := hm.size
    simp; omega
  obtain ⟨p', hp', hk, _⟩ := hm.get (List.getElem?_eq_getElem hlt)
  rw [hj] at hp'; injection hp' with hp'; subst hp'
  obtain ⟨u, hu, e⟩ := h.2.1 _ (List.getElem_mem hlt) (all_seen es seen h0 _ (List.getElem_mem hlt))
  rw [S_inj (hk.symm.trans e)]; exact hu⟩
theorem RL.nextM {i bi c0 : Nat} {seen : Array Nat} (hd : Nat.blt d n = true) (hH : Hp w0 w L) (hi : L[i]? = some (.blk bi (.mapIter (some b) clock seen c0))) (hb : w.heap[b]? = some (.map es clock)) (hm : MpIs es clock kv) (hsc : clock ≤ c0) (hx : ev σ x = .pointer (some ⟨bi, 0, none⟩))
    (h1 : (leftOf es seen).size = 0 → RL P n ops k rest (upd σ d (.tuple #[B false])) w)
    (h2 : ∀ (e : MapEntry) (q : Tx × El), e ∈ (leftOf es seen).toList → q ∈ kv → e.key = S q.1 → e.val = .agg (elC q.2) → ∀ w', Hp w0 w' (L.set i (.blk bi (.mapIter (some b) clock (seen.push e.born) clock))) → RL P n ops k rest (upd σ d (.tuple #[B true, S q.1, .agg (elC q.2)])) w') :
    RL P n ops k (⟨some d, .next x false, ty, pos, aft, none⟩ :: rest) σ w :=
  RL.next hd hH hi hb hm.old hsc hx h1 fun e he w' hw => by
    obtain ⟨j, hj⟩ := List.mem_iff_getElem?.1 (mem_left he).1
    obtain ⟨q, hq, hk, hv⟩ := hm.get hj
    rw [hk, hv]
    exact h2 e q he (List.mem_of_getElem? hq) hk hv w' hw
theorem run_entry {bi since c0 : Nat} {seen : Array Nat} {e : MapEntry} {q : Tx × El} (hg : w.heap[bi]? = some (.mapIter (some b) since (seen.push e.born) c0)) (hb : w.heap[b]? = some (.map es c0)) (hm : MpIs es clock kv) (he : e ∈ (leftOf es seen).toList) (hk : e.key = S q.1) (hv : e.val = .agg (elC q.2)) (hx : ev σ x = .pointer (some ⟨bi, 0, none⟩)) :
    (execOp (ev σ) ⟨dst, .entry x, ty, pos, aft, g⟩).run P w = .ok (.value (.tuple #[S q.1, .agg (elC q.2)])) w := by
  have hf : es.find? (·.born == e.born) = some e := by rw [← Array.find?_toList]; exact find_born e es.toList hm.born (mem_left he).1
  have h2 : (Instr.entry (.pointer (some ⟨bi, 0, none⟩))).run P w = .ok (.tuple #[e.key, e.val]) w := by
    simp only [Instr.entry, getObj, Sem.run_bind, Sem.run, hg, hb, Result.andThen, Array.back?_push, bne_self_eq_false, Bool.false_eq_true, if_false, hf]
    rfl
  simp [execOp, hx, h2, hk, hv, Result.andThen]
end
section
variable {P : Program} {σ : Env} {w : World} {ty t u : TypeId} {pos : String} {aft : Array Edge} {dst : Option Tmp} {g : Option (Nat × Bool)} {x y : Operand} {a b : Tx}
theorem run_geqS (hx : ev σ x = S a) (hy : ev σ y = S b) : (execOp (ev σ) ⟨dst, .binOp .geq t x y u, ty, pos, aft, g⟩).run P w = .ok (.value (.bool (!lessT a b))) w :=
  run_binS hx hy (by simp [binOp, Op.stringOp]; rfl)
end
theorem ins_1 {m : List Tx} {x : Tx} (h : insAt m x < 0) : insN m x = m ++ [x] := if_pos h
theorem ins_2 {m : List Tx} {x : Tx} (h : ¬ insAt m x < 0) (h2 : m.getD (insAt m x).toNat tx0 = x) : insN m x = m := by rw [insN, if_neg h, if_pos h2]
theorem ins_3 {m : List Tx} {x : Tx} (h : ¬ insAt m x < 0) (h2 : ¬ m.getD (insAt m x).toNat tx0 = x) : insN m x = m.take (insAt m x).toNat ++ x :: m.drop (insAt m x).toNat := by rw [insN, if_neg h, if_neg h2]
theorem insAt_in {m : List Tx} {x : Tx} (h : ¬ insAt m x < 0) : 0 ≤ insAt m x ∧ insAt m x < m.length := by
  unfold insAt at *
  rcases find_cases (fun k => !lessT (m.getD k.toNat tx0) x) m.length with ⟨j, a, b, _, _, e⟩ | ⟨_, e⟩ <;> omega
theorem insN_len (m : List Tx) (x : Tx) : (insN m x).length ≤ m.length + 1 := by
  unfold insN
  split
  · simp
  · split
    · omega
    · simp; omega
theorem txs_one {m : List Tx} {u : Value} (hu : u ∈ txL m ++ [S tx0]) : u.oneCell' = true := by
  rcases List.mem_append.1 hu with h | h
  · unfold txL at h; obtain ⟨x, _, rfl⟩ := List.mem_map.1 h; rfl
  · rw [List.mem_singleton.1 h]; rfl
theorem sort_put {m : List Tx} {x : Tx} {p : Int} (h0 : 0 ≤ p) (h1 : p < m.length) :
    putL (putL (txL m ++ [S tx0]) ((p + 1).toNat * 1) (((txL m ++ [S tx0]).drop (p.toNat * 1)).take ((m.length - p.toNat) * 1))) (p.toNat * 1) [S x] = txL (m.take p.toNat ++ x :: m.drop p.toNat) := by
  have hl : (txL m).length = m.length := by simp [txL]
  have hq : p.toNat < m.length := by omega
  simp only [Nat.mul_one, show (p + 1).toNat = p.toNat + 1 by omega]
  generalize p.toNat = q at *
  have e1 : ((txL m ++ [S tx0]).drop q).take (m.length - q) = txL (m.drop q) := by
    rw [List.drop_append_of_le_length (by omega), List.take_append_of_le_length (by rw [List.length_drop]; omega), List.take_of_length_le (by rw [List.length_drop]; omega)]
    simp [txL, List.map_drop]
  have l1 : (txL (m.drop q)).length = m.length - q := by simp [txL]
  rw [e1]
  have e2 : putL (txL m ++ [S tx0]) (q + 1) (txL (m.drop q)) = (txL m ++ [S tx0]).take (q + 1) ++ txL (m.drop q) := by
    have e0 : (txL m ++ [S tx0]).drop (q + 1 + (m.length - q)) = [] := List.drop_of_length_le (by rw [List.length_append, hl, List.length_singleton]; omega)
    rw [putL, l1, e0, List.append_nil]
  have l2 : ((txL m ++ [S tx0]).take (q + 1)).length = q + 1 := by rw [List.length_take]; simp [hl]; omega
  rw [e2, putL, List.take_append_of_le_length (by omega), List.take_take, Nat.min_eq_left (by omega), show q + [S x].length = ((txL m ++ [S tx0]).take (q + 1)).length by rw [l2]; rfl, List.drop_left, List.take_append_of_le_length (by omega)]
  simp [txL, List.map_take, List.map_drop]
theorem allV_len {a : Asg} {r : RowR} (hrl : ∀ x ∈ a.rows, x.l.length ≤ 1000) (hfl : r.fields.length ≤ 1000) : (allV a.as r).length ≤ 2000 := by
  unfold allV tailV
  rw [List.length_append, List.length_map]
  by_cases c : 0 ≤ r.tail
  · rw [if_pos c, as_row]
    by_cases h : r.tail.toNat < a.rows.length
    · have := hrl _ (List.getElem_mem h)
      rw [List.getD_eq_getElem?_getD, List.getElem?_eq_getElem h, Option.getD_some]; omega
    · rw [List.getD_eq_getElem?_getD, List.getElem?_eq_none (by omega)]
      show vr0.l.length + _ ≤ _
      simp [vr0]; omega
  · rw [if_neg c]; simp; omega
theorem left_pos {es : Array MapEntry} {seen : Array Nat} {e : MapEntry} (h : e ∈ (leftOf es seen).toList) : 0 < (leftOf es seen).size := by
  have := List.length_pos_of_mem h
  simpa using this
theorem sort_len (l : List Tx) : (sortN l).length ≤ l.length := by
  have key : ∀ r : List Tx, (sortN r.reverse).length ≤ r.reverse.length := by
    intro r
    induction r with
    | nil => simp [sortN]
    | cons x r ih =>
      rw [List.reverse_cons]
      have e : sortN (r.reverse ++ [x]) = insN (sortN r.reverse) x := by simp [sortN]
      rw [e, List.length_append, List.length_singleton]
      have := insN_len (sortN r.reverse) x
      omega
  have := key l.reverse
  rwa [List.reverse_reverse] at this
def laidTo (ns : List Tx) (kv : List (Tx × El)) (k : Int) : List ValR := (ns.take k.toNat).map fun n => ⟨n, (lookK kv n).1⟩
theorem laid_next {ns : List Tx} {kv : List (Tx × El)} {k : Int} (h0 : 0 ≤ k) (h1 : k < ns.length) : laidTo ns kv (k + 1) = laidTo ns kv k ++ [⟨ns.getD k.toNat tx0, (lookK kv (ns.getD k.toNat tx0)).1⟩] := by
  rw [laidTo, take_snoc (d := tx0) h0 h1, List.map_append]; rfl
theorem laid_all {ns : List Tx} {kv : List (Tx × El)} {k : Int} (h : ¬ k < ns.length) : laidTo ns kv k = ns.map fun n => ⟨n, (lookK kv n).1⟩ := by
  rw [laidTo, List.take_of_length_le (by omega)]
section
variable {a : Asg} {r : RowR} {k : Int} {m : List ValR}
end
theorem lay_len (l : List ValR) : (layF l).length ≤ l.length := by
  have key : ∀ r : List ValR, (layF r.reverse).length ≤ r.reverse.length := by
    intro r
    induction r with
    | nil => simp [layF]
    | cons x r ih =>
      rw [List.reverse_cons, lay_snoc, List.length_append, List.length_singleton]
      have := with_len (layF r.reverse) x.name x.el
      omega
  have := key l.reverse
  rwa [List.reverse_reverse] at this
theorem rowM_len {a : Asg} {r : RowR} (hrl : ∀ x ∈ a.rows, x.l.length ≤ 1000) (hfl : r.fields.length ≤ 1000) : ((rowM a.as r).1.length : Int) ≤ 2000 := by
  unfold rowM
  have h1 := allV_len hrl hfl
  have h2 := lay_len (allV a.as r)
  split
  · show ((layF (allV a.as r)).length : Int) ≤ 2000; omega
  · show (([] : List ValR).length : Int) ≤ 2000; simp
/-! ### How great they are -/
structure AsgSm (a : Asg) : Prop where
  rl : ∀ x ∈ a.rows, x.l.length ≤ 1000
  rn : ∀ x ∈ a.rows, ∀ v ∈ x.l, v.name.size ≤ 1000
structure AssSm (x : AssR) : Prop where
  c : x.code.length ≤ 1000
  fa : x.a.fields.length ≤ 1000
  fb : x.b.fields.length ≤ 1000
  na : ∀ f ∈ x.a.fields, f.name.size ≤ 1000
  nb : ∀ f ∈ x.b.fields, f.name.size ≤ 1000
def manyF (x : AssR) : Bool := decide (200 < x.code.length ∨ 40 < x.a.fields.length ∨ 40 < x.b.fields.length ∨ 40 < x.field.size) || (x.a.fields ++ x.b.fields).any fun f => decide (40 < f.name.size)
def bigP (p : ProbR) : Bool := bigScp p.s || decide (80 < p.asserts.length) || p.asserts.any manyF
theorem many_sm {x : AssR} (h : manyF x = false) : AssSm x := by
  rw [manyF, Bool.or_eq_false_iff, decide_eq_false_iff_not, List.any_eq_false] at h
  obtain ⟨h1, h2⟩ := h
  refine ⟨by omega, by omega, by omega, fun f hf => ?_, fun f hf => ?_⟩
  · have := h2 f (List.mem_append_left _ hf); simp at this; omega
  · have := h2 f (List.mem_append_right _ hf); simp at this; omega
theorem bigA_sm {a : Asg} (h : bigA a = false) : AsgSm a := by
  have := (bigA_no h).2.2
  exact ⟨fun x hx => by have := (this x hx).1; omega, fun x hx v hv => by have := (this x hx).2 v hv; omega⟩
theorem bigP_no {p : ProbR} (h : bigP p = false) : bigScp p.s = false ∧ p.asserts.length ≤ 80 ∧ ∀ x ∈ p.asserts, AssSm x := by
  rw [bigP, Bool.or_eq_false_iff, Bool.or_eq_false_iff, decide_eq_false_iff_not, List.any_eq_false] at h
  exact ⟨h.1.1, by omega, fun x hx => many_sm (by simpa using h.2 x hx)⟩
theorem fields_one (l : List FieldR) : ∀ u ∈ l.flatMap fieldL, u.oneCell' = true := fun u hu => by
  obtain ⟨f, _, hf⟩ := List.mem_flatMap.1 hu
  exact fieldL_one f u (by simpa using hf)
theorem first_yes {s : Scp} {a : As} {l : List AssR} {k : Int} (h0 : 0 ≤ k) (h1 : k < l.length) (h : oneF s a (l.getD k.toNat ass0) = false) (hg : ∀ j : Int, 0 ≤ j → j < k → oneF s a (l.getD j.toNat ass0) = true) : firstF s a l = k :=
  find_yes h0 h1 (by rw [h]; rfl) fun j a b => by rw [hg j a b]; rfl
theorem first_no {s : Scp} {a : As} {l : List AssR} {k : Int} (hk : ¬ k < l.length) (hg : ∀ j : Int, 0 ≤ j → j < k → oneF s a (l.getD j.toNat ass0) = true) : firstF s a l = -1 :=
  find_no fun j a b => by rw [hg j a (by omega)]; rfl
theorem many_yes1 {x : AssR} (h : 200 < x.code.length ∨ 40 < x.a.fields.length ∨ 40 < x.b.fields.length ∨ 40 < x.field.size) : manyF x = true := by rw [manyF, decide_eq_true h, Bool.true_or]
theorem many_yes2 {x : AssR} {m : List FieldR} {k : Int} (hm : m = x.a.fields ++ x.b.fields) (h0 : 0 ≤ k) (h1 : k < m.length) (h : 40 < (m.getD k.toNat field0).name.size) : manyF x = true := by
  rw [manyF, ← hm, any_yes (d := field0) h0 h1 (decide_eq_true h), Bool.or_true]
theorem many_no {x : AssR} {m : List FieldR} {k : Int} (hm : m = x.a.fields ++ x.b.fields) (h : ¬ (200 < x.code.length ∨ 40 < x.a.fields.length ∨ 40 < x.b.fields.length ∨ 40 < x.field.size)) (h1 : ¬ k < m.length) (h2 : ∀ j : Int, 0 ≤ j → j < k → decide (40 < (m.getD j.toNat field0).name.size) = false) : manyF x = false := by
  rw [manyF, ← hm, decide_eq_false h, any_no (d := field0) h1 h2]; rfl
theorem bigP_yes1 {p : ProbR} (h : bigScp p.s = true ∨ 80 < p.asserts.length) : bigP p = true := by
  rw [bigP]; rcases h with h | h
  · rw [h, Bool.true_or, Bool.true_or]
  · rw [decide_eq_true h, Bool.or_true, Bool.true_or]
theorem bigP_yes2 {p : ProbR} {k : Int} (h0 : 0 ≤ k) (h1 : k < p.asserts.length) (h : manyF (p.asserts.getD k.toNat ass0) = true) : bigP p = true := by rw [bigP, any_yes (d := ass0) h0 h1 h, Bool.or_true]
theorem bigP_not {p : ProbR} {k : Int} (h : bigScp p.s = false) (h2 : ¬ 80 < p.asserts.length) (h1 : ¬ k < p.asserts.length) (h3 : ∀ j : Int, 0 ≤ j → j < k → manyF (p.asserts.getD j.toNat ass0) = false) : bigP p = false := by
  rw [bigP, h, decide_eq_false h2, any_no (d := ass0) h1 h3]; rfl
end Go.Proofs.YtkdbiooamgnfmaaGreatDoor.E
