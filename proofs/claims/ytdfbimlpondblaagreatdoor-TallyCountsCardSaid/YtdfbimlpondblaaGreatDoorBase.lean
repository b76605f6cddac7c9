/-
  Where the logic and the plain facts meet: the table of math/bits; rows that are read, cut, handed on.
-/
import Derived.Test.YtdfbimlpondblaaGreatDoorEnv
import Derived.Test.YtdfbimlpondblaaGreatDoorPlain
namespace Go.Proofs.YtdfbimlpondblaaGreatDoor.E
open Go Go.RowKit Go.Proofs.YtdfbimlpondblaaGreatDoor.M
set_option linter.unusedVariables false
def Tab (w : World) : Prop := ∀ j, j < 64 → w.cell? ⟨0, j, none⟩ = some (.int .u8 (tztab.getD j 0))
theorem Tab.below {w w' : World} (h : Tab w) (hb : Below w.heap.size w w') : Tab w' := fun j hj => by
  have h1 := h j hj
  rw [hb.cell (World.block_lt_of_cell? w _ h1)]; exact h1
theorem Tab.hp {w0 w : World} {L : List Ent} (h : Tab w0) (hH : Hp w0 w L) : Tab w := h.below hH.below
theorem Tab.at {w : World} (h : Tab w) (x : BitVec 64) : w.cell? ⟨0, 0 + (((x >>> 58).toNat : Int)).toNat * 1, none⟩ = some (.int .u8 (tztab.getD (x >>> 58).toNat 0)) := by
  have h2 := h (x >>> 58).toNat (by have := tz_idx x; omega)
  generalize (x >>> 58).toNat = j at *
  simpa using h2
theorem tztab_bd (j : Nat) : 0 ≤ tztab.getD j 0 ∧ tztab.getD j 0 ≤ 63 := by
  by_cases h : j < 64
  · have key : ∀ k : Fin 64, 0 ≤ tztab.getD k.val 0 ∧ tztab.getD k.val 0 ≤ 63 := by decide +kernel
    exact key ⟨j, h⟩
  · have : tztab.getD j 0 = 0 := by
      rw [List.getD_eq_getElem?_getD, List.getElem?_eq_none (by simp [tztab]; omega)]; rfl
    omega
theorem conv_bd {x : Int} (h : 0 ≤ x ∧ x ≤ 63) : -9223372036854775808 ≤ x ∧ x ≤ 9223372036854775807 := by omega
theorem Hp.blkRow {w0 w : World} {L : List Ent} {b : Nat} {c : List Value} {e : TypeId} (h : Hp w0 w (.blk b (.cells c.toArray e (0, 0)) :: L)) (n sz : Nat) (hc : c.length = n * sz) (hn : n ≤ maxLen) :
    Hp w0 w (.row (.slice (some ⟨b, 0, none⟩) n n) e sz n c :: L) := by
  refine ⟨h.below, fun x hx => ?_, ?_⟩
  · rcases List.mem_cons.1 hx with rfl | hx
    · have h1 := h.ok _ (List.mem_cons_self ..)
      exact ⟨hc, .inr ⟨b, n, c.toArray, rfl, h1.1, h1.2, Nat.le_refl _, hn, by simpa using hc, by simp [← hc]⟩⟩
    · exact h.ok x (List.mem_cons_of_mem _ hx)
  · exact List.Pairwise.cons (fun y hy => (List.pairwise_cons.1 h.dis).1 y hy) (List.pairwise_cons.1 h.dis).2
section drawn
variable {P : Program} {n : Nat} {l : List Oper} {S : World → Prop} {k : K} {xs : List (Nat × K)} {r : K} {σ : Env} {w w0 : World} {L L' L'' : List Ent} {fuel i d : Nat} {listed : Array Bool} {op : Op} {ty : TypeId} {pos : String} {aft : Array Edge} {g : Option (Nat × Bool)} {v : Value} {dst : Option Tmp}
theorem CW.regionS {id : Nat} (hm : P.follows .mixedOrders = true) (hH : Hp w0 w L) (hs : L'.Sublist L)
    (h : ∀ w', Hp w0 w' L → AN P n l (fun w => Hp w0 w L') k l.length (Array.replicate l.length false) σ w') : CW P n (.region id l.toArray true) k xs r σ w := by
  intro a ha
  refine Code.wp_mono (fun e a' w' hq => ?_) (wp_region_any (id := id) (Q := rpost n k) hm (wpAny_of_held (S := fun w => Hp w0 w L') _ _ _ _ ?_))
  · cases e with
    | normal => exact hq
    | exit id => exact hq.elim
    | ret => exact hq.elim
    | goto l => exact hq.elim
    | panic c => exact hq.elim
    | outgrown => exact hq.elim
  · have := h _ hH.drew a ha
    simpa using this
theorem AN.two (i j : Nat) (hr : Region.ready .any l.toArray listed = [i, j]) (h1 : AO P n l S k fuel listed σ w i) (h2 : AO P n l S k fuel listed σ w j) : AN P n l S k (fuel + 1) listed σ w :=
  AN.all [i, j] hr rfl fun x hx => by
    simp at hx
    rcases hx with rfl | rfl
    · exact h1
    · exact h2
theorem AO.read (hi : l[i]? = some ⟨some d, op, ty, pos, aft, g⟩) (hg : ∀ a, Is n σ a → Region.wanted ⟨some d, op, ty, pos, aft, g⟩ (yielded l.toArray a.tmps) = true) (hd : Nat.blt d n = true)
    (hH : Hp w0 w L'') (hs : L'.Sublist L'') (hr : (execOp (ev σ) ⟨some d, op, ty, pos, aft, g⟩).run P w = .ok (.value v) w)
    (h : AN P n l (fun w => Hp w0 w L') k fuel (listed.setIfInBounds i true) (upd σ d v) w) : AO P n l (fun w => Hp w0 w L') k fuel listed σ w i :=
  AO.val hi hg hd hr (hH.sub hs) h
theorem AO.set {j b : Nat} {c c' : Array Value} {e : TypeId} (hi : l[i]? = some ⟨none, op, ty, pos, aft, g⟩) (hg : ∀ a, Is n σ a → Region.wanted ⟨none, op, ty, pos, aft, g⟩ (yielded l.toArray a.tmps) = true)
    (hH : Hp w0 w L'') (hj : L''[j]? = some (.blk b (.cells c e (0, 0)))) (hs : L'.Sublist (L''.set j (.blk b (.cells c' e (0, 0)))))
    (hr : (execOp (ev σ) ⟨none, op, ty, pos, aft, g⟩).run P w = .ok .skip (w.setRow b c'))
    (h : ∀ w', Hp w0 w' (L''.set j (.blk b (.cells c' e (0, 0)))) → AN P n l (fun w => Hp w0 w L') k fuel (listed.setIfInBounds i true) σ w') : AO P n l (fun w => Hp w0 w L') k fuel listed σ w i :=
  AO.eff hi hg hr ((hH.set hj).sub hs) (h _ (hH.set hj))
end drawn
theorem row_cells {w : World} {base : Nat} {e : TypeId} {sz n : Nat} {v : Value} {xs : List Value} (h : w.ownsRow base e sz v n xs) : v.cells = #[v] ∧ v.oneCell' = true := by
  rcases h.2 with ⟨rfl, _⟩ | ⟨g, cap, cur, rfl, _⟩ <;> exact ⟨rfl, rfl⟩
theorem Sl.conv {w : World} {v : Value} {sz n n' : Nat} {c c' : List Value} (h : Sl w v sz n c) (hn : n = n') (hc : c = c') : Sl w v sz n' c' := by subst hn hc; exact h
def cutV (v : Value) (k : Nat) : Value :=
  match v with
  | .slice a _ c => .slice a k c
  | v => v
theorem Sl.cut {w : World} {v : Value} {sz n : Nat} {cells : List Value} (h : Sl w v sz n cells) (k : Nat) (hk : k ≤ n) : Sl w (cutV v k) sz k (cells.take (k * sz)) := by
  obtain ⟨a, cap, hv, hnc, ha⟩ := h.shape
  subst hv
  have e1 : sb (.slice a k cap) = sb (.slice a n cap) := by cases a <;> rfl
  have e2 : so (.slice a k cap) = so (.slice a n cap) := by cases a <;> rfl
  refine ⟨⟨a, cap, rfl, by omega, fun h0 => ?_⟩, ?_, fun j c hc => ?_, Nat.le_trans hk h.small⟩
  · show a = some ⟨sb (.slice a k cap), so (.slice a k cap), none⟩
    rw [e1, e2]; exact ha (by omega)
  · rw [List.length_take, h.len]; exact Nat.min_eq_left (Nat.mul_le_mul_right _ hk)
  · show w.cell? ⟨sb (.slice a k cap), so (.slice a k cap) + j, none⟩ = some c
    rw [e1, e2]
    rw [List.getElem?_take] at hc
    split at hc
    · exact h.cell j c hc
    · cases hc
section cutop
variable {P : Program} {σ : Env} {w : World} {dst : Option Tmp} {ty t : TypeId} {pos : String} {aft : Array Edge} {g : Option (Nat × Bool)} {x y : Operand} {v : Value} {sz n : Nat} {cells : List Value} {k : IntKind} {i : Int}
theorem run_cut {e : TypeId} (hS : Sl w v sz n cells) (hu : P.underlying t = some (.slice e)) (hs : ∀ w, (sizeOf e).run P w = .ok sz w) (hx : ev σ x = v) (hy : ev σ y = .int k i) (hi : 0 ≤ i ∧ i ≤ n) :
    (execOp (ev σ) ⟨dst, .slice t x none (some y) none, ty, pos, aft, g⟩).run P w = .ok (.value (cutV v i.toNat)) w := by
  obtain ⟨a, cap, hv, hnc, ha⟩ := hS.shape
  subst hv
  have h1 : 0 ≤ i ∧ i ≤ (cap : Int) := by omega
  have h2 : (Instr.slice t (.slice a n cap) none (some (.int k i)) none).run P w = .ok (.slice a i.toNat cap) w := by
    simp [Instr.slice, Instr.sliceBounds, Instr.sliceBound, run_underlying hu, asIntOf, h1, hs]
    intro h; cases a <;> rfl
  have h3 : (Instr.sliceAt t (.slice a n cap) none (some (.int k i)) none).run P w = .ok (.slice a i.toNat cap) w := by
    simp [Instr.sliceAt, run_underlying hu, h2]
  simp [execOp, hx, hy, h3, cutV]
end cutop
end Go.Proofs.YtdfbimlpondblaaGreatDoor.E
