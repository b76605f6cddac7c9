/-
  The logic over relations: a relation's cells, and what reads and writes them.
-/
import Derived.Test.YtdfbimlpondblaaGreatDoorEnv
import Derived.Test.YtdfbimlpondblaaGreatDoorPlain
import Derived.Test.YtdfbimlpondblaaGreatDoorBase
import Derived.Test.YtdfbimlpondblaaGreatDoorOrd
import Derived.Laws.StructEq
import Derived.Laws.Rows
namespace Go.Proofs.YtdfbimlpondblaaGreatDoor.E
open Go Go.RowKit Go.Proofs.YtdfbimlpondblaaGreatDoor.M
set_option linter.unusedVariables false
def relL (r : Rl) : List Value := I r.n :: (List.range 64).map fun i => U (r.up i)
@[irreducible] def relC (r : Rl) : Array Value := (relL r).toArray
theorem relC_def (r : Rl) : relC r = (relL r).toArray := by unfold relC; rfl
theorem relL_len (r : Rl) : (relL r).length = 65 := by simp [relL]
theorem relC_size (r : Rl) : (relC r).size = 65 := by rw [relC_def]; simp [relL]
theorem relC_N (r : Rl) : (relC r)[0]? = some (I r.n) := by rw [relC_def]; simp [relL]
theorem relC_up (r : Rl) {i : Nat} (h : i < 64) : (relC r)[0 + 1 + i * 1]? = some (U (r.up i)) := by
  rw [relC_def, show 0 + 1 + i * 1 = i + 1 by omega]; simp [relL, h]
theorem relC_one (r : Rl) : ∀ u ∈ relC r, u.oneCell' = true := by
  rw [relC_def]; simp [relL]
  exact ⟨rfl, fun _ _ => rfl⟩
section runs
variable {P : Program} {σ : Env} {w : World} {dst : Option Tmp} {ty t u : TypeId} {pos : String} {aft : Array Edge} {g : Option (Nat × Bool)} {x y : Operand} {b : Nat} {e : TypeId} {r : Rl} {fr : Nat × Nat}
theorem run_bld {ps : List (Nat × Operand)} {vs : List (Nat × Value)} {cells : Array Value} (h : ps.map (fun p => (p.1, ev σ p.2)) = vs) (hb : P.built t vs = some cells) :
    (execOp (ev σ) ⟨dst, .build t ps.toArray, ty, pos, aft, g⟩).run P w = .ok (.value (.agg cells)) w := Go.Proofs.YtdfbimlpondblaaGreatDoor.E.run_build h hb
theorem rangeAt_cells {c : List Value} (hg : w.heap[b]? = some (.cells c.toArray e fr)) : w.rangeAt b 0 c := fun j v hj => by
  unfold World.cell?
  simp only [hg]
  simpa using hj
theorem run_ldRel {d : TypeDesc} (hu : P.underlying t = some d) (hd : d.isRow = true) (hi : (P.info? t).map (·.size) = some 65) (hx : ev σ x = .pointer (some ⟨b, 0, none⟩))
    (hg : w.heap[b]? = some (.cells (relC r) e fr)) : (execOp (ev σ) ⟨dst, .load t x, ty, pos, aft, g⟩).run P w = .ok (.value (.agg (relC r))) w := by
  rw [relC_def] at hg ⊢
  exact run_ldA hu hd (by rw [relL_len]; exact hi) hx (rangeAt_cells hg)
theorem run_stRel {r0 : Rl} (hi : (P.info? t).map (·.size) = some 65) (hx : ev σ x = .pointer (some ⟨b, 0, none⟩)) (hy : ev σ y = .agg (relC r)) (hg : w.heap[b]? = some (.cells (relC r0) e (0, 0))) :
    (execOp (ev σ) ⟨dst, .store t x y, ty, pos, aft, g⟩).run P w = .ok .skip (w.setRow b (relC r)) :=
  run_stW (by rw [relC_size]; exact hi) hx hy (relC_one r) hg (by rw [relC_size, relC_size])
theorem beqU (a b : BitVec 64) : (((a.toNat : Nat) : Int) == ((b.toNat : Nat) : Int)) = decide (a = b) := by
  by_cases h : a = b
  · subst h; simp
  · rw [decide_eq_false h, beq_eq_false_iff_ne]
    intro e
    exact h (BitVec.eq_of_toNat_eq (by omega))
theorem eqArr (d : Nat) {t e : TypeId} {len : Nat} (f h : Nat → BitVec 64) (hu : P.underlying t = some (.array len e)) (he : P.underlying e = some (.int .u64)) (hs : ∀ w, (sizeOf e).run P w = .ok 1 w) (ha : ∀ w, (isAgg e).run P w = .ok false w) :
    (Op.equalIn (d + 1 + 1) t (.agg ((List.range len).map fun i => U (f i)).toArray) (.agg ((List.range len).map fun i => U (h i)).toArray)).run P w = .ok (decide (∀ i, i < len → f i = h i)) w := by
  unfold Op.equalIn
  simp only [Sem.run_bind, run_underlying hu, Result.andThen_ok, hs]
  rw [Std.Legacy.Range.forIn_eq_forIn_range']
  have key : ∀ (n s : Nat), s + n ≤ len → (Sem.run P (forIn (List.range' s n 1) ((none : Option Bool), ()) fun i __s => do
            let __do_lift ← part e (List.map (fun i => U (f i)) (List.range len)).toArray (i * 1)
            let __do_lift_1 ← part e (List.map (fun i => U (h i)) (List.range len)).toArray (i * 1)
            let __do_lift ← Op.equalIn (d + 1) e __do_lift __do_lift_1
            if (!__do_lift) = true then pure (ForInStep.done (some false, ())) else pure (ForInStep.yield (none, ()))) w)
      = .ok (if ∀ i, i < n → f (s + i) = h (s + i) then (none, ()) else (some false, ())) w := by
    intro n
    induction n with
    | zero =>
      intro s hs2
      have : ∀ i, i < 0 → f (s + i) = h (s + i) := fun i b => by omega
      rw [if_pos this]; rfl
    | succ n ih =>
      intro s hs2
      have hp : ∀ g : Nat → BitVec 64, (part e (List.map (fun i => U (g i)) (List.range len)).toArray (s * 1)).run P w = .ok (U (g s)) w := fun g => by
        simp [part, ha, show s < len by omega]
      rw [List.range'_succ, List.forIn_cons]
      simp only [Sem.run_bind, hp, Result.andThen_ok, run_equalIn_int w d e .u64 .u64 _ _ he, beqU]
      by_cases h1 : f s = h s
      · rw [decide_eq_true h1]
        simp only [Bool.not_true, Bool.false_eq_true, if_false, Sem.run_pure, Result.andThen_ok]
        rw [ih (s + 1) (by omega)]
        by_cases h2 : ∀ i, i < n → f (s + 1 + i) = h (s + 1 + i)
        · have h3 : ∀ i, i < n + 1 → f (s + i) = h (s + i) := fun i a => by
            cases i with
            | zero => exact h1
            | succ i => have := h2 i (by omega); rwa [show s + 1 + i = s + (i + 1) by omega] at this
          rw [if_pos h2, if_pos h3]
        · have h3 : ¬ ∀ i, i < n + 1 → f (s + i) = h (s + i) := fun h3 => h2 fun i a => by
            have := h3 (i + 1) (by omega); rwa [show s + (i + 1) = s + 1 + i by omega] at this
          rw [if_neg h2, if_neg h3]
      · rw [decide_eq_false h1]
        have h3 : ¬ ∀ i, i < n + 1 → f (s + i) = h (s + i) := fun h3 => h1 (h3 0 (by omega))
        rw [if_neg h3]
        simp only [Bool.not_false, if_true, Sem.run_pure, Result.andThen_ok]
  have k2 := key len 0 (by omega)
  have e0 : (Std.Legacy.Range.mk 0 len 1 (by decide)).size = len := by simp [Std.Legacy.Range.size]
  simp only [e0]
  rw [k2]
  by_cases h2 : ∀ i, i < len → f i = h i
  · have h3 : ∀ i, i < len → f (0 + i) = h (0 + i) := fun i b => by rw [Nat.zero_add]; exact h2 i b
    rw [if_pos h3, decide_eq_true h2]; rfl
  · have h3 : ¬ ∀ i, i < len → f (0 + i) = h (0 + i) := fun h3 => h2 fun i b => by have := h3 i b; rwa [Nat.zero_add] at this
    rw [if_neg h3, decide_eq_false h2]; rfl
theorem relC_tail (r : Rl) : (relC r).extract 1 (1 + 64) = ((List.range 64).map fun i => U (r.up i)).toArray := by
  rw [relC_def]
  apply Array.ext'
  simp [relL]
  rw [List.take_of_length_le (by simp)]
structure RelT (P : Program) (t : TypeId) (f0 f1 : Field) (e : TypeId) : Prop where
  u : P.underlying t = some (.struct (P.fieldsOf t))
  f : P.fieldsOf t = #[f0, f1]
  n0 : f0.name ≠ "_"
  n1 : f1.name ≠ "_"
  o0 : f0.offset = 0
  o1 : f1.offset = 1
  u0 : P.underlying f0.type = some (.int .i64)
  a0 : ∀ w, (isAgg f0.type).run P w = .ok false w
  u1 : P.underlying f1.type = some (.array 64 e)
  a1 : ∀ w, (isAgg f1.type).run P w = .ok true w
  s1 : ∀ w, (sizeOf f1.type).run P w = .ok 64 w
  ue : P.underlying e = some (.int .u64)
  se : ∀ w, (sizeOf e).run P w = .ok 1 w
  ae : ∀ w, (isAgg e).run P w = .ok false w
  st : P.stoodInHeld t = false
  eg : P.eqGuardType P.depth t = false
theorem RelT.eql {f0 f1 : Field} (T : RelT P t f0 f1 e) (a b : Rl) (w : World) : (Op.equalIn 10000 t (.agg (relC a)) (.agg (relC b))).run P w = .ok (decide (a.eq b)) w := by
  rw [run_equalIn_struct w 9999 t _ _ T.u T.st, T.f]
  have p0 : ∀ r : Rl, (part f0.type (relC r) f0.offset).run P w = .ok (I r.n) w := fun r => by
    rw [T.o0]; have := relC_N r; simp [part, T.a0, this]
  have p1 : ∀ r : Rl, (part f1.type (relC r) f1.offset).run P w = .ok (.agg ((List.range 64).map fun i => U (r.up i)).toArray) w := fun r => by
    rw [T.o1, ← relC_tail]; simp [part, T.a1, T.s1]
  have e0 : (Op.equalIn 9999 f0.type (I a.n) (I b.n)).run P w = .ok (a.n == b.n) w := run_equalIn_int w 9998 _ .i64 .i64 _ _ T.u0
  have e1 : (Op.equalIn 9999 f1.type (.agg ((List.range 64).map fun i => U (a.up i)).toArray) (.agg ((List.range 64).map fun i => U (b.up i)).toArray)).run P w = .ok (decide (∀ i : Nat, i < 64 → a.up i = b.up i)) w :=
    eqArr 9997 _ _ T.u1 T.ue T.se T.ae
  simp only [Op.eqFields, T.n0, T.n1, ne_eq, not_false_eq_true, if_true, Sem.run_bind, p0, e0, Result.andThen_ok]
  by_cases h0 : a.n = b.n
  · by_cases h1 : ∀ i, i < 64 → a.up i = b.up i
    · rw [decide_eq_true h1] at e1
      rw [decide_eq_true (show a.eq b from ⟨h0, h1⟩)]; simp [h0, p1, e1]
    · rw [decide_eq_false h1] at e1
      rw [decide_eq_false (show ¬ a.eq b from fun h => h1 h.2)]; simp [h0, p1, e1]
  · rw [decide_eq_false (show ¬ a.eq b from fun h => h0 h.1)]; simp [h0]
structure PairT (P : Program) (t : TypeId) (f0 f1 : Field) : Prop where
  u : P.underlying t = some (.struct (P.fieldsOf t))
  f : P.fieldsOf t = #[f0, f1]
  n0 : f0.name ≠ "_"
  n1 : f1.name ≠ "_"
  o0 : f0.offset = 0
  o1 : f1.offset = 1
  u0 : P.underlying f0.type = some (.int .i64)
  a0 : ∀ w, (isAgg f0.type).run P w = .ok false w
  u1 : P.underlying f1.type = some (.int .i64)
  a1 : ∀ w, (isAgg f1.type).run P w = .ok false w
  st : P.stoodInHeld t = false
  eg : P.eqGuardType P.depth t = false
theorem PairT.eql {f0 f1 : Field} (T : PairT P t f0 f1) (a b c d : Int) (w : World) : (Op.equalIn 10000 t (.agg #[I a, I b]) (.agg #[I c, I d])).run P w = .ok (decide ((a, b) = (c, d))) w := by
  rw [run_equalIn_struct w 9999 t _ _ T.u T.st, T.f]
  have p0 : ∀ x y : Int, (part f0.type #[I x, I y] f0.offset).run P w = .ok (I x) w := fun x y => by
    rw [T.o0]; simp [part, T.a0]
  have p1 : ∀ x y : Int, (part f1.type #[I x, I y] f1.offset).run P w = .ok (I y) w := fun x y => by
    rw [T.o1]; simp [part, T.a1]
  have e0 : (Op.equalIn 9999 f0.type (I a) (I c)).run P w = .ok (a == c) w := run_equalIn_int w 9998 _ .i64 .i64 _ _ T.u0
  have e1 : (Op.equalIn 9999 f1.type (I b) (I d)).run P w = .ok (b == d) w := run_equalIn_int w 9998 _ .i64 .i64 _ _ T.u1
  simp only [Op.eqFields, T.n0, T.n1, ne_eq, not_false_eq_true, if_true, Sem.run_bind, p0, e0, Result.andThen_ok]
  by_cases h0 : a = c
  · subst h0
    by_cases h1 : b = d
    · subst h1; simp [p1, e1]
    · simp [p1, e1, h1]
  · simp [h0]
theorem outC {w0 w : World} {fn : Func} {L : List Ent} {i p : Nat} {q : Value → World → Prop} {d : TypeDesc} {ty : TypeId} (h : fn.results = #[.cell p ty]) (hp : σ p = .pointer (some ⟨b, 0, none⟩)) (hH : Hp w0 w L)
    (hi : L[i]? = some (.blk b (.cells (relC r) e fr))) (hu : P.underlying ty = some d) (hd : d.isRow = true) (hz : (P.info? ty).map (·.size) = some 65) (hq : q (.agg (relC r)) w) : Out P fn q σ w :=
  fun n a ha => ⟨_, results_cell_row h _ w b e (relC r) fr d (by rw [ha.get, hp]) (hH.blk hi) hu (by cases d <;> simp_all) (by rw [relC_size]; exact hz), hq⟩
def prL (l : List (Int × Int)) : List Value := l.flatMap fun p => [I p.1, I p.2]
@[simp] theorem prL_snoc (l : List (Int × Int)) (a b : Int) : prL (l ++ [(a, b)]) = prL l ++ [I a, I b] := by simp [prL]
end runs
end Go.Proofs.YtdfbimlpondblaaGreatDoor.E
