/-
  A small program logic over slots: 'CW' (code), 'RL' (the operations of a region), both over an environment from slots to values. Used by all walks of this claim.
-/
import Derived.WalkKit
import Derived.ProofKit
import Derived.Deep.Quiet
import Derived.Laws.AppendOwn
import Derived.Laws.CopyRow
import Derived.Laws.Tables
import Derived.Deep.MidRow
import Derived.Great.BuildSlice
import Derived.OrdersHeld
import Derived.Laws.CopyOwn
import Derived.WalkLawsBesides
namespace Go.Proofs.YtdfbimlpondblaaDoor.E
open Go Go.RowKit
set_option linter.unusedVariables false
abbrev Env := Nat → Value
def upd (σ : Env) (d : Nat) (v : Value) : Env := fun i => if i = d then v else σ i
def ev (σ : Env) : Operand → Value
  | .tmp t => σ t
  | .const v => v
  | .global g => .pointer (some ⟨g, 0, none⟩)
  | .func f => .func (.func f) #[] #[]
theorem upd_ne (σ : Env) {d i : Nat} (v : Value) (h : i ≠ d) : upd σ d v i = σ i := by simp [upd, h]
abbrev I (n : Int) : Value := .int .i64 n
abbrev U (x : BitVec 64) : Value := .int .u64 (x.toNat : Int)
abbrev B (b : Bool) : Value := .bool b
structure Is (n : Nat) (σ : Env) (a : Act) : Prop where
  size : a.tmps.size = n
  get : ∀ t, a.tmps.getD t undef = σ t
  defers : a.defers = []
section basics
variable {n : Nat} {σ : Env} {a : Act}
theorem Is.eval (h : Is n σ a) : a.eval = ev σ := by
  funext x
  cases x with
  | tmp t => exact h.get t
  | const v => rfl
  | global g => rfl
  | func f => rfl
theorem Is.put (h : Is n σ a) {d : Nat} (hd : Nat.blt d n = true) (v : Value) : Is n (upd σ d v) (a.put (some d) v) := by
  have hd' : d < n := by simpa [Nat.blt_eq] using hd
  refine ⟨?_, fun t => ?_, ?_⟩
  · simp [Act.put, h.size]
  · have := h.get t
    simp only [Act.put, upd, Array.getD_eq_getD_getElem?] at *
    rw [Array.getElem?_setIfInBounds]
    by_cases ht : d = t
    · subst ht; simp [h.size, hd']
    · rw [if_neg ht, if_neg (fun e => ht e.symm)]; exact this
  · simp [Act.put, h.defers]
theorem Is.look (h : Is n σ a) {t : Nat} {v : Value} (hv : σ t = v) (hne : v ≠ undef) : a.tmps[t]? = some v := by
  have := h.get t
  rw [hv, Array.getD_eq_getD_getElem?] at this
  cases hx : a.tmps[t]? with
  | none => simp [hx] at this; exact absurd this.symm hne
  | some u => simp [hx] at this; rw [this]
end basics
abbrev K := Env → World → Prop
def post (n : Nat) (k : K) (xs : List (Nat × K)) (r : K) : Exit → Act → World → Prop
  | .normal, a, w => ∃ σ, Is n σ a ∧ k σ w
  | .exit id, a, w => ∃ σ, Is n σ a ∧ ∃ q, xs.lookup id = some q ∧ q σ w
  | .ret, a, w => ∃ σ, Is n σ a ∧ r σ w
  | _, _, _ => False
def CW (P : Program) (n : Nat) (c : Code) (k : K) (xs : List (Nat × K)) (r : K) (σ : Env) (w : World) : Prop :=
  ∀ a, Is n σ a → c.wp P (post n k xs r) a w
def rpost (n : Nat) (k : K) : Exit → Act → World → Prop
  | .normal, a, w => ∃ σ, Is n σ a ∧ k σ w
  | _, _, _ => False
def RL (P : Program) (n : Nat) (ops : Array Oper) (k : K) (l : List Oper) (σ : Env) (w : World) : Prop :=
  ∀ a, Is n σ a → wpList P ops (rpost n k) l a w
section code
variable {P : Program} {n : Nat} {k : K} {xs : List (Nat × K)} {r : K} {σ : Env} {w : World}
theorem CW.mono {c : Code} {k' : K} (h : CW P n c k xs r σ w) (hk : ∀ σ w, k σ w → k' σ w) : CW P n c k' xs r σ w := by
  intro a ha
  refine Code.wp_mono (fun e a' w' hq => ?_) (h a ha)
  cases e with
  | normal => obtain ⟨σ', h1, h2⟩ := hq; exact ⟨σ', h1, hk _ _ h2⟩
  | exit id => exact hq
  | ret => exact hq
  | goto l => exact hq
  | panic c => exact hq
  | outgrown => exact hq
theorem CW.skip (h : k σ w) : CW P n .skip k xs r σ w := fun a ha => wp_skip ⟨σ, ha, h⟩
theorem CW.ret (h : r σ w) : CW P n .ret k xs r σ w := fun a ha => wp_ret ⟨σ, ha, h⟩
theorem CW.exit {id : Nat} {q : K} (hq : xs.lookup id = some q) (h : q σ w) : CW P n (.exit id) k xs r σ w :=
  fun a ha => wp_exit ⟨σ, ha, q, hq, h⟩
theorem CW.seq {x y : Code} (h : CW P n x (fun σ w => CW P n y k xs r σ w) xs r σ w) : CW P n (.seq x y) k xs r σ w := by
  intro a ha
  refine wp_seq (Code.wp_mono (fun e a' w' hq => ?_) (h a ha))
  cases e with
  | normal => obtain ⟨σ', h1, h2⟩ := hq; exact h2 _ h1
  | exit id => exact hq
  | ret => exact hq
  | goto l => exact hq
  | panic c => exact hq
  | outgrown => exact hq
theorem CW.cut {x y : Code} (m : K) (h : CW P n x m xs r σ w) (h' : ∀ σ w, m σ w → CW P n y k xs r σ w) : CW P n (.seq x y) k xs r σ w :=
  CW.seq (h.mono h')
theorem CW.cond {c : Operand} {x y : Code} {t : Bool} (hc : ev σ c = .bool t) (ht : t = true → CW P n x k xs r σ w)
    (hf : t = false → CW P n y k xs r σ w) : CW P n (.cond c x y) k xs r σ w :=
  fun a ha => wp_cond_split (by rw [ha.eval]; exact hc) (fun h => ht h a ha) (fun h => hf h a ha)
theorem CW.condT {c : Operand} {x y : Code} (hc : ev σ c = .bool true) (ht : CW P n x k xs r σ w) : CW P n (.cond c x y) k xs r σ w :=
  fun a ha => wp_cond_true (by rw [ha.eval]; exact hc) (ht a ha)
theorem CW.condF {c : Operand} {x y : Code} (hc : ev σ c = .bool false) (hf : CW P n y k xs r σ w) : CW P n (.cond c x y) k xs r σ w :=
  fun a ha => wp_cond_false (by rw [ha.eval]; exact hc) (hf a ha)
theorem CW.condP {c : Operand} {x y : Code} {p : Prop} [inst : Decidable p] (hc : ev σ c = .bool (decide p)) (ht : p → CW P n x k xs r σ w)
    (hf : ¬ p → CW P n y k xs r σ w) : CW P n (.cond c x y) k xs r σ w :=
  CW.cond hc (fun h => ht (by simpa using h)) (fun h => hf (by simpa using h))
theorem CW.block {id : Nat} {c : Code} (h : CW P n c k ((id, k) :: xs) r σ w) : CW P n (.block id c) k xs r σ w := by
  intro a ha
  refine wp_block (Code.wp_mono (fun e a' w' hq => ?_) (h a ha))
  cases e with
  | normal => exact hq
  | exit id' =>
    obtain ⟨σ', h1, q, h2, h3⟩ := hq
    simp only [Exit.inBlock]
    by_cases hid : id' = id
    · rw [if_pos hid]; subst hid
      simp only [List.lookup_cons, beq_self_eq_true, Option.some.injEq] at h2
      subst h2; exact ⟨σ', h1, h3⟩
    · rw [if_neg hid]
      have hb : (id' == id) = false := by simpa using hid
      simp only [List.lookup_cons, hb] at h2
      exact ⟨σ', h1, q, h2, h3⟩
  | ret => exact hq
  | goto l => exact hq
  | panic c => exact hq
  | outgrown => exact hq
theorem CW.loop {c : Code} {G : Type} (inv : G → K) (mu : G → Nat) (g0 : G) (h0 : inv g0 σ w)
    (round : ∀ g σ w, inv g σ w → CW P n c (fun σ' w' => ∃ g', mu g' < mu g ∧ inv g' σ' w') xs r σ w) : CW P n (.loop c) k xs r σ w := by
  intro a ha b kk cs
  have key : ∀ m g σ w a, mu g = m → inv g σ w → Is n σ a →
      ∃ e a' w', post n k xs r e a' w' ∧ Arrives P (lone (b.at a (.code c :: .inLoop c :: kk)) cs w) b kk cs e a' w' := by
    intro m
    induction m using Nat.strongRecOn with
    | _ m ih =>
      intro g σ w a hm hi ha
      obtain ⟨e, a', w', hq, harr⟩ := round g σ w hi a ha b (.inLoop c :: kk) cs
      cases e with
      | normal =>
        obtain ⟨σ', h1, g', hlt, hi'⟩ := hq
        obtain ⟨e2, a2, w2, hq2, harr2⟩ := ih (mu g') (hm ▸ hlt) g' σ' w' a' rfl hi' h1
        exact ⟨e2, a2, w2, hq2, .of_steps (Steps.trans harr (.one step_inLoop)) harr2⟩
      | exit id => exact ⟨.exit id, a', w', hq, .pass (x := .inLoop c) rfl (fun _ _ => .inl (by simp)) harr⟩
      | ret => exact ⟨.ret, a', w', hq, .pass (x := .inLoop c) rfl (fun _ _ => .inl (by simp)) harr⟩
      | goto l => exact hq.elim
      | panic c => exact hq.elim
      | outgrown => exact hq.elim
  obtain ⟨e, a', w', hq, harr⟩ := key _ g0 σ w a rfl h0 ha
  exact ⟨e, a', w', hq, .of_steps (.one step_loop) harr⟩
theorem CW.region {id : Nat} {l : List Oper} (h : RL P n l.toArray k l σ w) : CW P n (.region id l.toArray false) k xs r σ w := by
  intro a ha
  refine Code.wp_mono (fun e a' w' hq => ?_) (wp_region_lit (id := id) (h a ha))
  cases e with
  | normal => exact hq
  | exit id => exact hq.elim
  | ret => exact hq.elim
  | goto l => exact hq.elim
  | panic c => exact hq.elim
  | outgrown => exact hq.elim
end code
/-! ### A function's entry and its results -/
def Ret (q : Value → World → Prop) : Ending → World → Prop
  | .returned v, w => q v w
  | _, _ => False
theorem Ret.mono {q q' : Value → World → Prop} (h : ∀ v w, q v w → q' v w) {e : Ending} {w : World} (hr : Ret q e w) : Ret q' e w := by
  cases e with
  | returned v => exact h v w hr
  | panicked c => exact hr
  | outgrown => exact hr
theorem Ret.calls {P : Program} {f : FuncId} {args : Array Value} {w : World} {q q' : Value → World → Prop} (hc : Calls P f args w (Ret q)) (h : ∀ v w, q v w → q' v w) : Calls P f args w (Ret q') := hc.mono fun _ _ hr => hr.mono h
def entry (args : Array Value) : Env := fun i => args.getD i undef
theorem entry_is (args : Array Value) (n : Nat) (h : args.size ≤ n) : Is n (entry args) { tmps := args ++ Array.replicate (n - args.size) undef, defers := [] } := by
  refine ⟨by simp; omega, fun t => ?_, rfl⟩
  simp only [entry, Array.getD_eq_getD_getElem?, Array.getElem?_append, Array.getElem?_replicate]
  split
  · rfl
  · rename_i ht
    rw [Array.getElem?_eq_none (by omega)]
    split <;> rfl
section entry
variable {P : Program} {n : Nat} {w : World}
def Out (P : Program) (fn : Func) (q : Value → World → Prop) : K := fun σ w =>
  ∀ n a, Is n σ a → ∃ v, (results fn a.tmps).run P w = .ok v w ∧ q v w
theorem enter {f : FuncId} {fn : Func} {c : Code} {args : Array Value} {q : Value → World → Prop} (hf : P.funcs[f]? = some fn) (hb : fn.body = some c)
    (hn : fn.ntmps = n) (ha : Nat.ble args.size n = true) (h : CW P n c (Out P fn q) [] (Out P fn q) (entry args) w) : Calls P f args w (Ret q) := by
  refine calls_of_wp hf hb ?_
  rw [hn]
  refine Code.wp_mono (fun e a' w' hq => ?_) (h _ (entry_is args n (by simpa using ha)))
  cases e with
  | normal => obtain ⟨σ, h1, h2⟩ := hq; obtain ⟨v, h3, h4⟩ := h2 _ _ h1; exact ⟨h1.defers, v, h3, h4⟩
  | ret => obtain ⟨σ, h1, h2⟩ := hq; obtain ⟨v, h3, h4⟩ := h2 _ _ h1; exact ⟨h1.defers, v, h3, h4⟩
  | exit id => obtain ⟨σ, h1, q, h2, h3⟩ := hq; simp at h2
  | goto l => exact hq.elim
  | panic c => exact hq.elim
  | outgrown => exact hq.elim
variable {fn : Func} {q : Value → World → Prop} {σ : Env}
theorem out0 (h : fn.results = #[]) (hq : q (.tuple #[]) w) : Out P fn q σ w := fun _ _ _ => ⟨_, results_none h _ _ _, hq⟩
theorem out1 {t : Nat} {v : Value} (h : fn.results = #[.tmp t]) (hv : σ t = v) (hq : q v w) : Out P fn q σ w :=
  fun _ a ha => ⟨v, by rw [results_tmp h, ha.get, hv], hq⟩
theorem out2 {t u : Nat} {x y : Value} (h : fn.results = #[.tmp t, .tmp u]) (hx : σ t = x) (hy : σ u = y) (hq : q (.tuple #[x, y]) w) : Out P fn q σ w :=
  fun _ a ha => ⟨_, by rw [results_tmp2 h, ha.get, ha.get, hx, hy], hq⟩
end entry
/-! ### The operations of a region -/
section ops
variable {P : Program} {n : Nat} {ops : Array Oper} {k : K} {rest : List Oper} {σ : Env} {w w' : World} {op : Op} {ty : TypeId} {pos : String} {aft : Array Edge} {d : Nat}
theorem RL.nil (h : k σ w) : RL P n ops k [] σ w := fun a ha => wpList_nil ⟨σ, ha, h⟩
theorem RL.val {v : Value} (hd : Nat.blt d n = true) (hr : (execOp (ev σ) ⟨some d, op, ty, pos, aft, none⟩).run P w = .ok (.value v) w')
    (hk : RL P n ops k rest (upd σ d v) w') : RL P n ops k (⟨some d, op, ty, pos, aft, none⟩ :: rest) σ w := by
  intro a ha
  refine wpList_plain rfl fun K hK => ?_
  rw [Oper.wp, ha.eval, hr]
  exact hK _ _ (hk _ (ha.put hd v))
theorem RL.eff (hr : (execOp (ev σ) ⟨none, op, ty, pos, aft, none⟩).run P w = .ok .skip w')
    (hk : RL P n ops k rest σ w') : RL P n ops k (⟨none, op, ty, pos, aft, none⟩ :: rest) σ w := by
  intro a ha
  refine wpList_plain rfl fun K hK => ?_
  rw [Oper.wp, ha.eval, hr]
  exact hK _ _ (hk _ ha)
theorem RL.call {f : FuncId} {args : Array Value} {q : Value → World → Prop} (hd : Nat.blt d n = true)
    (hr : (execOp (ev σ) ⟨some d, op, ty, pos, aft, none⟩).run P w = .ok (.enter f args) w) (hc : Calls P f args w (Ret q))
    (hk : ∀ v w', q v w' → RL P n ops k rest (upd σ d v) w') : RL P n ops k (⟨some d, op, ty, pos, aft, none⟩ :: rest) σ w := by
  intro a ha
  refine wpList_plain rfl fun K hK => ?_
  rw [Oper.wp, ha.eval, hr]
  refine hc.mono fun e w' hq => ?_
  cases e with
  | returned v => exact hK _ _ (hk _ _ hq _ (ha.put hd v))
  | panicked c => exact hq.elim
  | outgrown => exact hq.elim
theorem wanted_of {a : Act} (ha : Is n σ a) {j dj : Nat} {b want : Bool} (hj : (ops[j]?).bind (·.dst) = some dj) (hb : σ dj = .bool b) (dst : Option Tmp) :
    Region.wanted ⟨dst, op, ty, pos, aft, some (j, want)⟩ (yielded ops a.tmps) = (b == want) := by
  have h1 : a.tmps[dj]? = some (.bool b) := ha.look hb (by simp [undef])
  simp only [Region.wanted, yielded, hj, Option.bind_some, h1]
  cases b <;> cases want <;> rfl
theorem RL.gT {j dj : Nat} {want : Bool} {dst : Option Tmp} (hj : (ops[j]?).bind (·.dst) = some dj) (hb : σ dj = .bool want)
    (h : RL P n ops k (⟨dst, op, ty, pos, aft, none⟩ :: rest) σ w) : RL P n ops k (⟨dst, op, ty, pos, aft, some (j, want)⟩ :: rest) σ w := by
  intro a ha
  have h' := h a ha
  simp only [wpList, wanted_of ha hj hb, beq_self_eq_true, if_true]
  simp only [wpList, Region.wanted, if_true] at h'
  exact h'
theorem RL.gF {j dj : Nat} {b want : Bool} (hd : Nat.blt d n = true) (hj : (ops[j]?).bind (·.dst) = some dj) (hb : σ dj = .bool b) (hne : (b == want) = false)
    (h : RL P n ops k rest (upd σ d undef) w) : RL P n ops k (⟨some d, op, ty, pos, aft, some (j, want)⟩ :: rest) σ w := by
  intro a ha
  simp only [wpList, wanted_of ha hj hb, hne]
  exact h _ (ha.put hd undef)
end ops
/-! ### What one operation comes to -/
section runs
variable {P : Program} {σ : Env} {w : World} {dst : Option Tmp} {ty : TypeId} {pos : String} {aft : Array Edge} {g : Option (Nat × Bool)}
theorem run_move {x : Operand} {v : Value} (hx : ev σ x = v) : (execOp (ev σ) ⟨dst, .move x, ty, pos, aft, g⟩).run P w = .ok (.value v) w := by
  subst hx; rfl
theorem run_assign {x : Operand} {v : Value} (hx : ev σ x = v) : (execOp (ev σ) ⟨dst, .assign x, ty, pos, aft, g⟩).run P w = .ok (.value v) w := by
  subst hx; rfl
theorem run_pickT {c a b : Operand} {v : Value} (hc : ev σ c = .bool true) (ha : ev σ a = v) :
    (execOp (ev σ) ⟨dst, .pick c a b, ty, pos, aft, g⟩).run P w = .ok (.value v) w := by
  subst ha; simp [execOp, hc, asBool]
theorem run_pickF {c a b : Operand} {v : Value} (hc : ev σ c = .bool false) (hb : ev σ b = v) :
    (execOp (ev σ) ⟨dst, .pick c a b, ty, pos, aft, g⟩).run P w = .ok (.value v) w := by
  subst hb; simp [execOp, hc, asBool]
theorem run_extract {t : Operand} {i : Nat} {vs : Array Value} {v : Value} (ht : ev σ t = .tuple vs) (hv : vs[i]? = some v) :
    (execOp (ev σ) ⟨dst, .extract t i, ty, pos, aft, g⟩).run P w = .ok (.value v) w := by
  simp [execOp, ht, Instr.extract, hv]
section ints
variable {t u : TypeId} {x y : Operand} {k : IntKind} {a b : Int}
theorem run_cmp {op : BinOp} {v : Value} (hx : ev σ x = .int k a) (hy : ev σ y = .int k b) (hop : (match op with | .eql => Value.bool (decide (a = b)) | .neq => .bool (decide (a ≠ b)) | .lss => .bool (decide (a < b)) | .leq => .bool (decide (a ≤ b)) | .gtr => .bool (decide (b < a)) | .geq => .bool (decide (b ≤ a)) | _ => undef) = v) (hu : v ≠ undef) :
    (execOp (ev σ) ⟨dst, .binOp op t x y u, ty, pos, aft, g⟩).run P w = .ok (.value v) w := by
  subst hop
  cases op <;> simp_all [execOp, eqGuard, binOp, Op.intCmp, undef]
  · rw [Bool.eq_iff_iff]; simp
  · rw [Bool.eq_iff_iff]; simp
theorem run_eql (hx : ev σ x = .int k a) (hy : ev σ y = .int k b) : (execOp (ev σ) ⟨dst, .binOp .eql t x y u, ty, pos, aft, g⟩).run P w = .ok (.value (.bool (decide (a = b)))) w := run_cmp hx hy rfl (by simp [undef])
theorem run_neq (hx : ev σ x = .int k a) (hy : ev σ y = .int k b) : (execOp (ev σ) ⟨dst, .binOp .neq t x y u, ty, pos, aft, g⟩).run P w = .ok (.value (.bool (decide (a ≠ b)))) w := run_cmp hx hy rfl (by simp [undef])
theorem run_lss (hx : ev σ x = .int k a) (hy : ev σ y = .int k b) : (execOp (ev σ) ⟨dst, .binOp .lss t x y u, ty, pos, aft, g⟩).run P w = .ok (.value (.bool (decide (a < b)))) w := run_cmp hx hy rfl (by simp [undef])
theorem run_leq (hx : ev σ x = .int k a) (hy : ev σ y = .int k b) : (execOp (ev σ) ⟨dst, .binOp .leq t x y u, ty, pos, aft, g⟩).run P w = .ok (.value (.bool (decide (a ≤ b)))) w := run_cmp hx hy rfl (by simp [undef])
theorem run_gtr (hx : ev σ x = .int k a) (hy : ev σ y = .int k b) : (execOp (ev σ) ⟨dst, .binOp .gtr t x y u, ty, pos, aft, g⟩).run P w = .ok (.value (.bool (decide (b < a)))) w := run_cmp hx hy rfl (by simp [undef])
theorem run_geq (hx : ev σ x = .int k a) (hy : ev σ y = .int k b) : (execOp (ev σ) ⟨dst, .binOp .geq t x y u, ty, pos, aft, g⟩).run P w = .ok (.value (.bool (decide (b ≤ a)))) w := run_cmp hx hy rfl (by simp [undef])
theorem wrap_id {n : Int} (h : -9223372036854775808 ≤ n ∧ n ≤ 9223372036854775807) : IntKind.i64.wrap n = n := IntWalk.i64_in n h
theorem run_add (hx : ev σ x = .int .i64 a) (hy : ev σ y = .int .i64 b) (h : -9223372036854775808 ≤ a + b ∧ a + b ≤ 9223372036854775807) :
    (execOp (ev σ) ⟨dst, .binOp .add t x y u, ty, pos, aft, g⟩).run P w = .ok (.value (.int .i64 (a + b))) w := by
  simp [execOp, hx, hy, eqGuard, binOp, Op.intArith, wrap_id h]
theorem run_sub (hx : ev σ x = .int .i64 a) (hy : ev σ y = .int .i64 b) (h : -9223372036854775808 ≤ a - b ∧ a - b ≤ 9223372036854775807) :
    (execOp (ev σ) ⟨dst, .binOp .sub t x y u, ty, pos, aft, g⟩).run P w = .ok (.value (.int .i64 (a - b))) w := by
  simp [execOp, hx, hy, eqGuard, binOp, Op.intArith, wrap_id h]
theorem run_mul (hx : ev σ x = .int .i64 a) (hy : ev σ y = .int .i64 b) (h : -9223372036854775808 ≤ a * b ∧ a * b ≤ 9223372036854775807) :
    (execOp (ev σ) ⟨dst, .binOp .mul t x y u, ty, pos, aft, g⟩).run P w = .ok (.value (.int .i64 (a * b))) w := by
  simp [execOp, hx, hy, eqGuard, binOp, Op.intArith, wrap_id h]
end ints
section words
variable {t u : TypeId} {x y : Operand} {a b : BitVec 64}
theorem wrapU (n : Int) : IntKind.u64.wrap n = ((BitVec.ofInt 64 n).toNat : Int) := by
  simp [IntKind.wrap, IntKind.bits, IntKind.signed, BitVec.toNat_ofInt]
  omega
theorem ofU (a : BitVec 64) : BitVec.ofInt 64 (a.toNat : Int) = a := by simp
theorem wrapUU (a : BitVec 64) : IntKind.u64.wrap (a.toNat : Int) = (a.toNat : Int) := by rw [wrapU, ofU]
theorem run_bin {op : BinOp} {k : IntKind} {m n : Int} {v : Value} (hx : ev σ x = .int k m) (hy : ev σ y = .int k n) (h : (binOp op t (.int k m) (.int k n)).run P w = .ok v w) :
    (execOp (ev σ) ⟨dst, .binOp op t x y u, ty, pos, aft, g⟩).run P w = .ok (.value v) w := by
  have he : (eqGuard op t x y (.int k m) (.int k n)) = pure () := by cases op <;> rfl
  simp [execOp, hx, hy, he, h]
theorem run_eqlU (hx : ev σ x = U a) (hy : ev σ y = U b) : (execOp (ev σ) ⟨dst, .binOp .eql t x y u, ty, pos, aft, g⟩).run P w = .ok (.value (.bool (decide (a = b)))) w := by
  rw [run_eql hx hy]; congr 3; rw [Bool.eq_iff_iff]; simp [← BitVec.toNat_inj]; omega
theorem run_neqU (hx : ev σ x = U a) (hy : ev σ y = U b) : (execOp (ev σ) ⟨dst, .binOp .neq t x y u, ty, pos, aft, g⟩).run P w = .ok (.value (.bool (decide (a ≠ b)))) w := by
  rw [run_neq hx hy]; congr 3; rw [Bool.eq_iff_iff]; simp [← BitVec.toNat_inj]; omega
theorem run_subU (hx : ev σ x = U a) (hy : ev σ y = U b) : (execOp (ev σ) ⟨dst, .binOp .sub t x y u, ty, pos, aft, g⟩).run P w = .ok (.value (U (a - b))) w := by
  have h : ((BitVec.ofInt 64 ((a.toNat : Int) - b.toNat)).toNat : Int) = ((a - b).toNat : Int) := by
    rw [BitVec.toNat_ofInt, BitVec.toNat_sub]; have := a.isLt; have := b.isLt; omega
  refine run_bin hx hy ?_
  simp only [binOp, Op.intArith, wrapU, h]; rfl
theorem run_mulU (hx : ev σ x = U a) (hy : ev σ y = U b) : (execOp (ev σ) ⟨dst, .binOp .mul t x y u, ty, pos, aft, g⟩).run P w = .ok (.value (U (a * b))) w := by
  simp [execOp, hx, hy, eqGuard, binOp, Op.intArith, wrapU, BitVec.ofInt_mul]
theorem run_andU (hx : ev σ x = U a) (hy : ev σ y = U b) : (execOp (ev σ) ⟨dst, .binOp .and t x y u, ty, pos, aft, g⟩).run P w = .ok (.value (U (a &&& b))) w := by
  refine run_bin hx hy ?_
  simp only [binOp, Op.intBits, IntKind.bits, ofU, wrapUU]; rfl
theorem run_orU (hx : ev σ x = U a) (hy : ev σ y = U b) : (execOp (ev σ) ⟨dst, .binOp .or t x y u, ty, pos, aft, g⟩).run P w = .ok (.value (U (a ||| b))) w := by
  refine run_bin hx hy ?_
  simp only [binOp, Op.intBits, IntKind.bits, ofU, wrapUU]; rfl
theorem run_andNotU (hx : ev σ x = U a) (hy : ev σ y = U b) : (execOp (ev σ) ⟨dst, .binOp .andNot t x y u, ty, pos, aft, g⟩).run P w = .ok (.value (U (a &&& ~~~b))) w := by
  refine run_bin hx hy ?_
  simp only [binOp, Op.intBits, IntKind.bits, ofU, wrapUU]; rfl
theorem run_negU (hx : ev σ x = U a) : (execOp (ev σ) ⟨dst, .unOp .neg t x, ty, pos, aft, g⟩).run P w = .ok (.value (U (-a))) w := by
  have h : ((BitVec.ofInt 64 (0 - (a.toNat : Int))).toNat : Int) = ((-a).toNat : Int) := by
    rw [BitVec.toNat_ofInt, BitVec.toNat_neg]; have := a.isLt; omega
  simp only [execOp, hx, Op.unary, Op.intArith, wrapU, h]; rfl
theorem run_shlU (hx : ev σ x = U a) (hy : ev σ y = U b) : (execOp (ev σ) ⟨dst, .binOp .shl t x y u, ty, pos, aft, g⟩).run P w = .ok (.value (U (a <<< b.toNat))) w := by
  have h : IntKind.u64.wrap ((a.toNat : Int) * 2 ^ (min b.toNat 64)) = ((a <<< b.toNat).toNat : Int) := by
    have e1 : ((a.toNat : Int) * 2 ^ (min b.toNat 64)) = ((a.toNat * 2 ^ (min b.toNat 64) : Nat) : Int) := by push_cast; rfl
    rw [wrapU, e1, BitVec.ofInt_natCast, BitVec.toNat_ofNat, BitVec.toNat_shiftLeft, Nat.shiftLeft_eq]
    by_cases hle : b.toNat ≤ 64
    · rw [Nat.min_eq_left hle]
    · rw [Nat.min_eq_right (by omega)]
      have e2 : (2 : Nat) ^ b.toNat = 2 ^ 64 * 2 ^ (b.toNat - 64) := by rw [← Nat.pow_add]; congr 1; omega
      rw [e2, ← Nat.mul_assoc, Nat.mul_right_comm, Nat.mul_mod_left, Nat.mul_mod_left]
  have hn : ¬ ((b.toNat : Int) < 0) := by omega
  have he : (eqGuard .shl t x y (U a) (U b)) = pure () := rfl
  simp only [execOp, hx, hy, he, binOp, Op.shift, if_neg hn, Int.toNat_natCast, IntKind.bits, h]; rfl
theorem run_shrU (hx : ev σ x = U a) (hy : ev σ y = U b) : (execOp (ev σ) ⟨dst, .binOp .shr t x y u, ty, pos, aft, g⟩).run P w = .ok (.value (U (a >>> b.toNat))) w := by
  have h : ((a.toNat : Int)).fdiv (2 ^ (min b.toNat 64)) = ((a >>> b.toNat).toNat : Int) := by
    have e1 : ((2 : Int) ^ (min b.toNat 64)) = ((2 ^ (min b.toNat 64) : Nat) : Int) := by push_cast; rfl
    rw [e1, Int.fdiv_eq_ediv_of_nonneg _ (Int.natCast_nonneg _), BitVec.toNat_ushiftRight, Nat.shiftRight_eq_div_pow]
    norm_cast
    by_cases hle : b.toNat ≤ 64
    · rw [Nat.min_eq_left hle]
    · rw [Nat.min_eq_right (by omega)]
      have := a.isLt
      rw [Nat.div_eq_of_lt (by omega), Nat.div_eq_of_lt]
      exact Nat.lt_of_lt_of_le this (Nat.pow_le_pow_right (by omega) (by omega))
  have hn : ¬ ((b.toNat : Int) < 0) := by omega
  have he : (eqGuard .shr t x y (U a) (U b)) = pure () := rfl
  simp only [execOp, hx, hy, he, binOp, Op.shift, if_neg hn, Int.toNat_natCast, IntKind.bits, h]; rfl
theorem run_convIU {s e : TypeId} {m : Int} {ki : IntKind} {des : TypeDesc} (hs : P.underlying s = some des) (he : P.underlying e = some (.int .u64)) (hx : ev σ x = .int ki m) :
    (execOp (ev σ) ⟨dst, .convert s e x, ty, pos, aft, g⟩).run P w = .ok (.value (U (BitVec.ofInt 64 m))) w := by
  have h : (convert s e (.int ki m)).run P w = .ok (.int .u64 (IntKind.u64.wrap m)) w := by
    simp [convert, run_underlying hs, run_underlying he, Conv.intToInt]
  simp only [execOp, hx]
  simp [h, wrapU]
theorem run_convUI {s e : TypeId} {m : Int} {ki : IntKind} {des : TypeDesc} (hs : P.underlying s = some des) (he : P.underlying e = some (.int .i64)) (hx : ev σ x = .int ki m) (h : -9223372036854775808 ≤ m ∧ m ≤ 9223372036854775807) :
    (execOp (ev σ) ⟨dst, .convert s e x, ty, pos, aft, g⟩).run P w = .ok (.value (.int .i64 m)) w := by
  have h : (convert s e (.int ki m)).run P w = .ok (.int .i64 m) w := by
    simp [convert, run_underlying hs, run_underlying he, Conv.intToInt, wrap_id h]
  simp only [execOp, hx]
  simp [h]
end words
section bools
variable {t u : TypeId} {x y : Operand} {a b : Bool} {p : Prop} [inst : Decidable p]
theorem run_not (hx : ev σ x = .bool a) : (execOp (ev σ) ⟨dst, .unOp .not t x, ty, pos, aft, g⟩).run P w = .ok (.value (.bool (!a))) w := by
  simp [execOp, hx, Op.unary]
end bools
/-! memory -/
section mem
variable {t u : TypeId} {x y : Operand} {v : Value}
theorem run_box {e : TypeId} (hx : ev σ x = v) : (execOp (ev σ) ⟨dst, .box e x, ty, pos, aft, g⟩).run P w = .ok (.value (.pointer (some ⟨w.heap.size, 0, none⟩))) (w.alloc (.cells v.cells e)) := by
  subst hx; rfl
theorem run_alloc {e : TypeId} {z : Value} (hz : ∀ w, (zeroValue e).run P w = .ok z w) : (execOp (ev σ) ⟨dst, .alloc e, ty, pos, aft, g⟩).run P w = .ok (.value (.pointer (some ⟨w.heap.size, 0, none⟩))) (w.alloc (.cells z.cells e)) := by
  simp [execOp, Instr.alloc, hz, newVar, newRow, newObj, Sem.run]
theorem run_fieldAddr {s i n off b o : Nat} {fs : Array Field} {f : Field} (hu : P.underlying s = some (.struct fs)) (hf : fs[i]? = some f) (ho : f.offset = off)
    (hs : ∀ w, (sizeOf f.type).run P w = .ok n w) (hn : n ≠ 0) (hx : ev σ x = .pointer (some ⟨b, o, none⟩)) :
    (execOp (ev σ) ⟨dst, .fieldAddr s x i, ty, pos, aft, g⟩).run P w = .ok (.value (.pointer (some ⟨b, o + off, none⟩))) w := by
  subst ho
  simp [execOp, Instr.fieldAt, run_underlying hu, hf, hx, Instr.sureAddr, fieldPlace, hs, hn, Addr.add_mid]
theorem run_indexAddrA {len n b o : Nat} {e : TypeId} {k : IntKind} {i : Int} (hu : P.underlying t = some (.array len e)) (hs : ∀ w, (sizeOf e).run P w = .ok n w)
    (hx : ev σ x = .pointer (some ⟨b, o, none⟩)) (hy : ev σ y = .int k i) (hi : 0 ≤ i ∧ i < len) :
    (execOp (ev σ) ⟨dst, .indexAddr t x y, ty, pos, aft, g⟩).run P w = .ok (.value (.pointer (some ⟨b, o + i.toNat * n, none⟩))) w := by
  simp [execOp, Instr.indexAt, run_underlying hu, hx, hy, asIntOf, Instr.sureAddr, hi, hs, Addr.add_mid]
theorem run_nilCheck {a : Addr} (hx : ev σ x = .pointer (some a)) : (execOp (ev σ) ⟨dst, .nilCheck x, ty, pos, aft, g⟩).run P w = .ok (.value (.pointer (some a))) w := by
  simp [execOp, hx]
theorem run_ld {d : TypeDesc} {b o : Nat} (hu : P.underlying t = some d) (hd : d.isRow = false) (hx : ev σ x = .pointer (some ⟨b, o, none⟩)) (hc : w.cell? ⟨b, o, none⟩ = some v) :
    (execOp (ev σ) ⟨dst, .load t x, ty, pos, aft, g⟩).run P w = .ok (.value v) w := by
  have ha : (isAgg t).run P w = .ok false w := by
    unfold isAgg
    rw [Sem.run_bind, run_underlying hu w]
    cases d <;> simp_all
  simp [execOp, hx, Instr.loadAt, Instr.sureAddr, loadVar, ha, load, Sem.run, hc]
theorem run_ldA {d : TypeDesc} {b o : Nat} {cs : List Value} (hu : P.underlying t = some d) (hd : d.isRow = true) (hi : (P.info? t).map (·.size) = some cs.length)
    (hx : ev σ x = .pointer (some ⟨b, o, none⟩)) (hc : w.rangeAt b o cs) :
    (execOp (ev σ) ⟨dst, .load t x, ty, pos, aft, g⟩).run P w = .ok (.value (.agg cs.toArray)) w := by
  have := run_loadAt_mid (P := P) w b o t cs d hc hu hd hi
  simp only [execOp, hx, Sem.run_bind, this]; rfl
theorem cells_setRow {b : Nat} {c : Array Value} {e : TypeId} {off : Nat} (hg : w.heap[b]? = some (.cells c e (0, 0))) (vs : List Value) (hl : off + vs.length ≤ c.size) (h1 : ∀ u ∈ vs, u.oneCell' = true) :
    (storeCells ⟨b, off, none⟩ vs).run P w = .ok () (w.setRow b (c.toList.take off ++ vs ++ c.toList.drop (off + vs.length)).toArray) := by
  have := run_storeCells_at P b off e vs 0 c w hg (by simpa using hl) h1
  simpa using this
theorem run_st {b off : Nat} {c : Array Value} {e : TypeId} (hi : (P.info? t).map (·.size) = some 1) (hx : ev σ x = .pointer (some ⟨b, off, none⟩)) (hy : ev σ y = v) (hv : v.cells = #[v]) (h1 : v.oneCell' = true)
    (hg : w.heap[b]? = some (.cells c e (0, 0))) (ho : off < c.size) :
    (execOp (ev σ) ⟨dst, .store t x y, ty, pos, aft, g⟩).run P w = .ok .skip (w.setRow b (c.setIfInBounds off v)) := by
  have hs := cells_setRow (P := P) (off := off) hg [v] (by simp; omega) (by simpa using h1)
  have e1 : (c.toList.take off ++ [v] ++ c.toList.drop (off + 1)).toArray = c.setIfInBounds off v := by
    apply Array.ext'
    simp [List.set_eq_take_append_cons_drop, ho]
  have hz : (sizeOf t).run P w = .ok 1 w := by
    cases hq : P.info? t with
    | none => simp [hq] at hi
    | some i => simp [hq] at hi; simp [sizeOf, typeInfo, hq, hi]
  simp only [List.length_singleton, e1] at hs
  simp [execOp, hx, hy, Instr.storeAt, Instr.sureAddr, storeVar, hv, hz, hs]
theorem run_stW {b : Nat} {c c' : Array Value} {e : TypeId} (hi : (P.info? t).map (·.size) = some c'.size) (hx : ev σ x = .pointer (some ⟨b, 0, none⟩)) (hy : ev σ y = .agg c') (h1 : ∀ u ∈ c', u.oneCell' = true)
    (hg : w.heap[b]? = some (.cells c e (0, 0))) (ho : c'.size = c.size) :
    (execOp (ev σ) ⟨dst, .store t x y, ty, pos, aft, g⟩).run P w = .ok .skip (w.setRow b c') := by
  have hs := cells_setRow (P := P) (off := 0) hg c'.toList (by simp [ho]) (by simpa using h1)
  have e1 : (c.toList.take 0 ++ c'.toList ++ c.toList.drop (0 + c'.toList.length)).toArray = c' := by
    apply Array.ext'
    simp [ho]
  have hz : (sizeOf t).run P w = .ok c'.size w := by
    cases hq : P.info? t with
    | none => simp [hq] at hi
    | some i => simp [hq] at hi; simp [sizeOf, typeInfo, hq, hi]
  rw [e1] at hs
  simp [execOp, hx, hy, Instr.storeAt, Instr.sureAddr, storeVar, Value.cells, hz, hs]
theorem run_makeFunc {fn : Fn} {cs : List Operand} {vs : List Value} (h : cs.map (ev σ) = vs) : (execOp (ev σ) ⟨dst, .makeFunc fn #[] cs.toArray, ty, pos, aft, g⟩).run P w = .ok (.value (.func fn #[] vs.toArray)) w := by
  subst h; simp [execOp, Instr.makeFunc]
theorem run_call {f : FuncId} {as : List Operand} {ats : Array TypeId} {vs : List Value} (hf : ∀ args w, (callFunc f args).run P w = .ok (.enter f args) w) (h : as.map (ev σ) = vs) :
    (execOp (ev σ) ⟨dst, .call { callee := .value (.func f), args := as.toArray, argTypes := ats }, ty, pos, aft, g⟩).run P w = .ok (.enter f vs.toArray) w := by
  subst h
  simp [execOp, resolve, ev, Deferred.ofValue, invoke, hf]
theorem run_callV {x : Operand} {f : FuncId} {cap : Array Value} {as : List Operand} {ats : Array TypeId} {vs : List Value} (hf : ∀ args w, (callFunc f args).run P w = .ok (.enter f args) w)
    (hx : ev σ x = .func (.func f) #[] cap) (h : as.map (ev σ) = vs) :
    (execOp (ev σ) ⟨dst, .call { callee := .value x, args := as.toArray, argTypes := ats }, ty, pos, aft, g⟩).run P w = .ok (.enter f (vs.toArray ++ cap)) w := by
  subst h
  simp [execOp, resolve, hx, Deferred.ofValue, invoke, hf]
theorem run_lenS {e : TypeId} {a : Option Addr} {n c : Nat} {ats : Array TypeId} (ht : ats[0]? = some t) (hu : P.underlying t = some (.slice e)) (hx : ev σ x = v) (hv : v = .slice a n c) :
    (execOp (ev σ) ⟨dst, .call { callee := .builtin .len, args := #[x], argTypes := ats }, ty, pos, aft, g⟩).run P w = .ok (.value (I n)) w := by
  subst hv
  simp [execOp, resolve, invoke, builtin, Builtin.len_, ht, hx, run_underlying hu, goInt]
theorem run_maxI {a b : Int} {ats : Array TypeId} (hx : ev σ x = .int .i64 a) (hy : ev σ y = .int .i64 b) :
    (execOp (ev σ) ⟨dst, .call { callee := .builtin .max, args := #[x, y], argTypes := ats }, ty, pos, aft, g⟩).run P w = .ok (.value (.int .i64 (max a b))) w := by
  have h : (if b > a then b else a) = max a b := by omega
  simp [execOp, resolve, invoke, builtin, Builtin.max_, Builtin.max2, hx, hy, h]
theorem run_minI {a b : Int} {ats : Array TypeId} (hx : ev σ x = .int .i64 a) (hy : ev σ y = .int .i64 b) :
    (execOp (ev σ) ⟨dst, .call { callee := .builtin .min, args := #[x, y], argTypes := ats }, ty, pos, aft, g⟩).run P w = .ok (.value (.int .i64 (min a b))) w := by
  have h : (if b < a then b else a) = min a b := by omega
  simp [execOp, resolve, invoke, builtin, Builtin.min_, Builtin.min2, hx, hy, h]
theorem run_lenStr {s : ByteArray} {ats : Array TypeId} (ht : ats[0]? = some t) (hu : P.underlying t = some .string) (hx : ev σ x = .string s) :
    (execOp (ev σ) ⟨dst, .call { callee := .builtin .len, args := #[x], argTypes := ats }, ty, pos, aft, g⟩).run P w = .ok (.value (I s.size)) w := by
  simp [execOp, resolve, invoke, builtin, Builtin.len_, ht, hx, run_underlying hu, goInt]
theorem run_build {ps : List (Nat × Operand)} {vs : List (Nat × Value)} {cells : Array Value} (h : ps.map (fun p => (p.1, ev σ p.2)) = vs) (hb : P.built t vs = some cells) :
    (execOp (ev σ) ⟨dst, .build t ps.toArray, ty, pos, aft, g⟩).run P w = .ok (.value (.agg cells)) w := by
  subst h
  have := Go.run_build (P := P) w t ((ps.map (fun p => (p.1, ev σ p.2))).toArray) cells hb
  simp [execOp, this]
theorem run_mkS {e : TypeId} {len : Nat} {ps : List (Nat × Operand)} {vs : List (Nat × Value)} {cells : Array Value} {ie : TypeInfo} {z : Value}
    (hu : P.underlying t = some (.slice e)) (hie : P.info? e = some ie) (hz : ie.zero = some z) (hsmall : ¬ len * ie.size > 2 ^ 24) (hpos : ¬ len * ie.size = 0)
    (h : ps.map (fun p => (p.1, ev σ p.2)) = vs) (hc : Instr.fill (fun i => some (i * ie.size, ie.size)) ((Array.range (len * ie.size)).map (z.cells[· % z.cells.size]!)) vs = some cells) :
    (execOp (ev σ) ⟨dst, .buildSlice t len ps.toArray, ty, pos, aft, g⟩).run P w = .ok (.value (.slice (some ⟨w.heap.size, 0, none⟩) len len)) (w.alloc (.cells cells e)) := by
  subst h
  have := Go.run_buildSlice (P := P) w t e len ((ps.map (fun p => (p.1, ev σ p.2))).toArray) cells ie z hu hie hz hsmall hpos hc
  simp [execOp, this]
theorem fold_set (off : Nat) : ∀ (cs : List Value) (j : Nat) (cur : List Value), off + j + cs.length ≤ cur.length →
    (cs.zipIdx j).foldl (fun (a : Array Value) (p : Value × Nat) => a.setIfInBounds (off + p.2) p.1) cur.toArray = (cur.take (off + j) ++ cs ++ cur.drop (off + j + cs.length)).toArray
  | [], j, cur, h => by simp
  | c :: cs, j, cur, h => by
    simp only [List.length_cons] at h
    simp only [List.zipIdx_cons, List.foldl_cons, List.setIfInBounds_toArray]
    rw [fold_set off cs (j + 1) (cur.set (off + j) c) (by simp; omega)]
    congr 1
    have h1 : (cur.set (off + j) c).take (off + (j + 1)) = cur.take (off + j) ++ [c] := by
      apply List.ext_getElem?
      intro i
      simp only [List.getElem?_take, List.getElem?_set, List.getElem?_append, List.length_take, show min (off + j) cur.length = off + j by omega]
      by_cases h1 : i < off + j
      · rw [if_pos (by omega), if_neg (by omega), if_pos h1, if_pos h1]
      · by_cases h2 : i = off + j
        · subst h2; rw [if_pos (show off + j < off + (j + 1) by omega), if_pos rfl, if_pos (by omega), if_neg (Nat.lt_irrefl _)]; simp
        · rw [if_neg (by omega), if_neg h1, List.getElem?_eq_none (by simp; omega)]
    have h2 : (cur.set (off + j) c).drop (off + (j + 1) + cs.length) = cur.drop (off + j + (c :: cs).length) := by
      rw [List.drop_set_of_lt (by omega)]; congr 1; simp; omega
    rw [h1, h2]; simp
theorem fill_all (sz : Nat) : ∀ (vs : List Value) (k : Nat) (cur : List Value), cur.length = (k + vs.length) * sz → (∀ v ∈ vs, v.cells.size = sz) →
    Instr.fill (fun i => some (i * sz, sz)) cur.toArray ((vs.zipIdx k).map fun p => (p.2, p.1)) = some (cur.take (k * sz) ++ vs.flatMap (·.cells.toList)).toArray
  | [], k, cur, h, _ => by simp [Instr.fill, List.take_of_length_le (show cur.length ≤ k * sz by simp at h; omega)]
  | v :: vs, k, cur, h, hv => by
    have hs := hv v (by simp)
    simp only [List.length_cons] at h
    have hm : (k + (vs.length + 1)) * sz = k * sz + sz + vs.length * sz := by rw [Nat.add_mul, Nat.add_mul, Nat.one_mul]; omega
    simp only [List.zipIdx_cons, List.map_cons, Instr.fill, hs, List.size_toArray]
    rw [if_neg (by simp; omega)]
    have hf : v.cells.zipIdx.foldl (fun (a : Array Value) (p : Value × Nat) => a.setIfInBounds (k * sz + p.2) p.1) cur.toArray = (cur.take (k * sz) ++ v.cells.toList ++ cur.drop (k * sz + sz)).toArray := by
      rw [← Array.foldl_toList, Array.toList_zipIdx]
      have := fold_set (k * sz) v.cells.toList 0 cur (by simp [hs]; omega)
      simpa [hs] using this
    have hf' : v.cells.zipIdx.foldl (fun cs (x : Value × Nat) => match x with | (c, j) => cs.setIfInBounds (k * sz + j) c) cur.toArray = (cur.take (k * sz) ++ v.cells.toList ++ cur.drop (k * sz + sz)).toArray := hf
    rw [hf', fill_all sz vs (k + 1) _ (by simp [hs]; rw [Nat.add_mul, Nat.add_mul]; omega) (fun u hu => hv u (by simp [hu]))]
    congr 2
    rw [show (k + 1) * sz = k * sz + sz by rw [Nat.add_mul, Nat.one_mul], List.take_append_of_le_length (by simp [hs]; omega)]
    rw [List.take_of_length_le (by simp [hs]; omega)]
    simp
theorem run_mkL {e sz : TypeId} {len : Nat} {ps : List (Nat × Operand)} {vs : List Value} {ie : TypeInfo} {z : Value}
    (hu : P.underlying t = some (.slice e)) (hie : P.info? e = some ie) (hz : ie.zero = some z) (hsz : ie.size = sz) (hl : vs.length = len) (hsmall : ¬ len * sz > 2 ^ 24) (hpos : ¬ len * sz = 0)
    (h : ps.map (fun p => (p.1, ev σ p.2)) = (vs.zipIdx.map fun p => (p.2, p.1))) (hc : vs.all (fun v => v.cells.size == sz) = true) :
    (execOp (ev σ) ⟨dst, .buildSlice t len ps.toArray, ty, pos, aft, g⟩).run P w = .ok (.value (.slice (some ⟨w.heap.size, 0, none⟩) len len)) (w.alloc (.cells (vs.flatMap (·.cells.toList)).toArray e)) := by
  subst hsz
  subst hl
  refine run_mkS hu hie hz hsmall hpos h ?_
  have hz' : ((Array.range (vs.length * ie.size)).map (z.cells[· % z.cells.size]!)) = (((Array.range (vs.length * ie.size)).map (z.cells[· % z.cells.size]!)).toList).toArray := (Array.toArray_toList ..).symm
  rw [hz']
  have := fill_all ie.size vs 0 (((Array.range (vs.length * ie.size)).map (z.cells[· % z.cells.size]!)).toList) (by simp) (fun v hv => by simpa using List.all_eq_true.1 hc v hv)
  simpa using this
theorem run_field {s i : Nat} {cs : Array Value} {fs : Array Field} {f : Field} (hu : P.underlying s = some (.struct fs)) (hf : fs[i]? = some f) (ha : ∀ w, (isAgg f.type).run P w = .ok false w)
    (hx : ev σ x = .agg cs) (hv : cs[f.offset]? = some v) : (execOp (ev σ) ⟨dst, .field s x i, ty, pos, aft, g⟩).run P w = .ok (.value v) w := by
  simp [execOp, Instr.field, run_underlying hu, hf, hx, asAgg, part, ha, hv]
theorem run_indexA {e : TypeId} {len : Nat} {cs : Array Value} {k : IntKind} {i : Int} (hu : P.underlying t = some (.array len e)) (ha : ∀ w, (isAgg e).run P w = .ok false w) (hs : ∀ w, (sizeOf e).run P w = .ok 1 w)
    (hx : ev σ x = .agg cs) (hy : ev σ y = .int k i) (hi : 0 ≤ i ∧ i < len) (hv : cs[i.toNat]? = some v) : (execOp (ev σ) ⟨dst, .index t x y, ty, pos, aft, g⟩).run P w = .ok (.value v) w := by
  simp [execOp, Instr.index, run_underlying hu, hx, hy, asIntOf, part, ha, hs, hv, hi]
end mem
end runs
/-! ### What a function owns, and what it reads -/
abbrev Ent := Sum (Nat × Obj) (Value × TypeId × Nat × Nat × List Value)
abbrev Ent.blk (b : Nat) (o : Obj) : Ent := .inl (b, o)
abbrev Ent.row (v : Value) (e : TypeId) (sz n : Nat) (xs : List Value) : Ent := .inr (v, e, sz, n, xs)
def Ent.foot : Ent → Option Nat
  | .inl (b, _) => some b
  | .inr (v, _) => v.ownBlock
def Ent.ok (base : Nat) (w : World) : Ent → Prop
  | .inl (b, o) => base ≤ b ∧ w.heap[b]? = some o
  | .inr (v, e, sz, n, xs) => w.ownsRow base e sz v n xs
structure Hp (w0 w : World) (L : List Ent) : Prop where
  below : Below w0.heap.size w0 w
  ok : ∀ x ∈ L, x.ok w0.heap.size w
  dis : L.Pairwise fun x y => x.foot = none ∨ x.foot ≠ y.foot
theorem Ent.ok_lt {base : Nat} {w : World} {x : Ent} (h : x.ok base w) : ∀ b, x.foot = some b → base ≤ b ∧ b < w.heap.size := by
  intro b hb
  rcases x with ⟨c, o⟩ | ⟨v, e, sz, n, xs⟩
  · simp only [Ent.foot, Option.some.injEq] at hb; subst hb
    exact ⟨h.1, (Array.getElem?_eq_some_iff.1 h.2).1⟩
  · exact World.ownsRow.lt h b hb
theorem Ent.ok_same {base : Nat} {w w' : World} {x : Ent} (h : x.ok base w) (hb : ∀ b, x.foot = some b → w'.heap[b]? = w.heap[b]?) : x.ok base w' := by
  rcases x with ⟨c, o⟩ | ⟨v, e, sz, n, xs⟩
  · exact ⟨h.1, (hb c rfl).trans h.2⟩
  · refine ⟨h.1, ?_⟩
    rcases h.2 with hn | ⟨gb, cap, cur, rfl, h1, h2, rest⟩
    · exact .inl hn
    · exact .inr ⟨gb, cap, cur, rfl, h1, (hb gb rfl).trans h2, rest⟩
section hp
variable {w0 w w' : World} {L : List Ent}
theorem Hp.start (w : World) : Hp w w [] := ⟨Below.refl _ _, fun _ h => (by cases h), List.Pairwise.nil⟩
theorem Hp.size (h : Hp w0 w L) : w0.heap.size ≤ w.heap.size := h.below.size
theorem Hp.drew (h : Hp w0 w L) : Hp w0 w.drew L := ⟨h.below.drew, fun x hx => Ent.ok_same (h.ok x hx) fun _ _ => rfl, h.dis⟩
theorem Hp.call (h : Hp w0 w L) (hb : Below w.heap.size w w') : Hp w0 w' L :=
  ⟨h.below.trans (hb.mono h.size), fun x hx => Ent.ok_same (h.ok x hx) fun b hf => hb.block b (Ent.ok_lt (h.ok x hx) b hf).2, h.dis⟩
theorem Hp.alloc (h : Hp w0 w L) (o : Obj) : Hp w0 (w.alloc o) (.blk w.heap.size o :: L) := by
  refine ⟨h.below.alloc h.size o, fun x hx => ?_, ?_⟩
  · rcases List.mem_cons.1 hx with rfl | hx
    · exact ⟨h.size, heap_alloc_new w o⟩
    · exact Ent.ok_same (h.ok x hx) fun b hf => Below.heap_alloc w o b (Ent.ok_lt (h.ok x hx) b hf).2
  · refine List.Pairwise.cons (fun y hy => ?_) h.dis
    right
    intro he
    have := (Ent.ok_lt (h.ok y hy) w.heap.size he.symm).2
    omega
theorem Hp.callRow {v : Value} {e : TypeId} {sz n : Nat} {xs : List Value} (h : Hp w0 w L) (hb : Below w.heap.size w w') (hr : w'.ownsRow w.heap.size e sz v n xs) : Hp w0 w' (.row v e sz n xs :: L) := by
  have h' := h.call hb
  refine ⟨h'.below, fun x hx => ?_, List.Pairwise.cons (fun y hy => ?_) h.dis⟩
  · rcases List.mem_cons.1 hx with rfl | hx
    · refine ⟨hr.1, ?_⟩
      rcases hr.2 with hn | ⟨gb, cap, cur, rfl, h1, rest⟩
      · exact .inl hn
      · exact .inr ⟨gb, cap, cur, rfl, Nat.le_trans h.size h1, rest⟩
    · exact h'.ok x hx
  · cases hv : v.ownBlock with
    | none => left; exact hv
    | some b =>
      right
      intro he
      have h1 := (hr.lt b hv).1
      have h2 := (Ent.ok_lt (h.ok y hy) b (by rw [← he]; exact hv)).2
      omega
theorem Hp.nilRow (h : Hp w0 w L) (e : TypeId) (sz : Nat) : Hp w0 w (.row (.slice none 0 0) e sz 0 [] :: L) :=
  ⟨h.below, fun x hx => by
    rcases List.mem_cons.1 hx with rfl | hx
    · exact World.ownsRow_nil w _ e sz
    · exact h.ok x hx, List.Pairwise.cons (fun y hy => .inl rfl) h.dis⟩
theorem Hp.tail {x : Ent} (h : Hp w0 w (x :: L)) : Hp w0 w L := ⟨h.below, fun y hy => h.ok y (List.mem_cons_of_mem _ hy), h.dis.tail⟩
theorem Hp.sub {L' : List Ent} (h : Hp w0 w L) (hs : L'.Sublist L) : Hp w0 w L' := ⟨h.below, fun y hy => h.ok y (hs.subset hy), h.dis.sublist hs⟩
theorem Hp.blk {i b : Nat} {o : Obj} (h : Hp w0 w L) (hi : L[i]? = some (.blk b o)) : w.heap[b]? = some o := (h.ok _ (List.mem_of_getElem? hi)).2
theorem Hp.cell {i b off : Nat} {c : Array Value} {e : TypeId} {fr : Nat × Nat} {v : Value} (h : Hp w0 w L) (hi : L[i]? = some (.blk b (.cells c e fr))) (hc : c[off]? = some v) : w.cell? ⟨b, off, none⟩ = some v := by
  rw [cell_of_row w b off c e fr (h.blk hi)]; exact hc
theorem Hp.range {i b off : Nat} {c : Array Value} {e : TypeId} {fr : Nat × Nat} {cs : List Value} (h : Hp w0 w L) (hi : L[i]? = some (.blk b (.cells c e fr))) (hc : ∀ j v, cs[j]? = some v → c[off + j]? = some v) : w.rangeAt b off cs :=
  fun j v hv => h.cell hi (hc j v hv)
theorem foot_set {i : Nat} {x x' : Ent} (hi : L[i]? = some x) (hf : x'.foot = x.foot) (hd : L.Pairwise fun x y => x.foot = none ∨ x.foot ≠ y.foot) : (L.set i x').Pairwise fun x y => x.foot = none ∨ x.foot ≠ y.foot := by
  have hm : (L.set i x').map Ent.foot = L.map Ent.foot := by
    rw [List.map_set, hf]
    apply List.ext_getElem?
    intro j
    rw [List.getElem?_set]
    split
    · rename_i hij; subst hij
      simp [hi]
      exact (List.getElem?_eq_some_iff.1 hi).1
    · rfl
  have h1 : (L.map Ent.foot).Pairwise fun x y => x = none ∨ x ≠ y := List.pairwise_map.2 hd
  rw [← hm] at h1
  exact List.pairwise_map.1 h1
theorem Hp.set {i b : Nat} {c c' : Array Value} {e : TypeId} (h : Hp w0 w L) (hi : L[i]? = some (.blk b (.cells c e (0, 0)))) : Hp w0 (w.setRow b c') (L.set i (.blk b (.cells c' e (0, 0)))) := by
  have hx := h.ok _ (List.mem_of_getElem? hi)
  have hil := (List.getElem?_eq_some_iff.1 hi).1
  refine ⟨below_setRow h.below hx.1 c', fun y hy => ?_, foot_set hi rfl h.dis⟩
  obtain ⟨j, hj, hjy⟩ := List.mem_iff_getElem.1 hy
  rw [List.getElem_set] at hjy
  split at hjy
  · subst hjy
    exact ⟨hx.1, setRow_heap w b c c' e (0, 0) hx.2⟩
  · rename_i hne
    have hjL : j < L.length := by simpa using hj
    have hyL : y ∈ L := hjy ▸ List.getElem_mem hjL
    refine Ent.ok_same (h.ok y hyL) fun bb hf => setRow_other w b bb c' fun hbb => ?_
    subst hbb
    have hp := List.pairwise_iff_getElem.1 h.dis
    have hLi : L[i] = .blk bb (.cells c e (0, 0)) := (List.getElem?_eq_some_iff.1 hi).2
    rcases Nat.lt_or_gt_of_ne hne with hlt | hgt
    · rcases hp i j hil hjL hlt with h0 | h0
      · rw [hLi] at h0; cases h0
      · rw [hLi, hjy, hf] at h0; exact h0 rfl
    · rcases hp j i hjL hil hgt with h0 | h0
      · rw [hjy, hf] at h0; cases h0
      · rw [hLi, hjy, hf] at h0; exact h0 rfl
theorem Hp.get {i : Nat} {x : Ent} (h : Hp w0 w L) (hi : L[i]? = some x) : x.ok w0.heap.size w := h.ok _ (List.mem_of_getElem? hi)
end hp
def sb : Value → Nat
  | .slice (some a) _ _ => a.block
  | _ => 0
def so : Value → Nat
  | .slice (some a) _ _ => a.off
  | _ => 0
structure Sl (w : World) (v : Value) (sz n : Nat) (cells : List Value) : Prop where
  shape : ∃ a cap, v = .slice a n cap ∧ n ≤ cap ∧ (0 < n → a = some ⟨sb v, so v, none⟩)
  len : cells.length = n * sz
  cell : ∀ j c, cells[j]? = some c → w.cell? ⟨sb v, so v + j, none⟩ = some c
  small : n ≤ maxLen
section sl
variable {P : Program} {w0 w w' : World} {L : List Ent} {v : Value} {sz n : Nat} {cells : List Value}
theorem Sl.nil (w : World) (sz : Nat) : Sl w (.slice none 0 0) sz 0 [] := ⟨⟨none, 0, rfl, Nat.le_refl _, fun h => by omega⟩, by simp, fun j c h => by simp at h, by simp [maxLen]⟩
theorem Sl.below (h : Sl w v sz n cells) (hb : Below w.heap.size w w') : Sl w' v sz n cells :=
  ⟨h.shape, h.len, fun j c hc => by
    have h1 := h.cell j c hc
    rw [hb.cell (World.block_lt_of_cell? w _ h1)]; exact h1, h.small⟩
theorem Sl.hp (h : Sl w0 v sz n cells) (hp : Hp w0 w L) : Sl w v sz n cells := h.below hp.below
theorem Sl.of_row {base : Nat} {e : TypeId} (h : w.ownsRow base e sz v n cells) : Sl w v sz n cells := by
  obtain ⟨h1, h2⟩ := h
  rcases h2 with ⟨rfl, rfl⟩ | ⟨gb, cap, cur, rfl, hb, hg, hn, hm, hs, ht⟩
  · have : cells = [] := List.eq_nil_of_length_eq_zero (by simpa using h1)
    subst this; exact Sl.nil w sz
  · refine ⟨⟨_, cap, rfl, hn, fun _ => rfl⟩, h1, fun j c hc => ?_, Nat.le_trans hn hm⟩
    simp only [sb, so, Nat.zero_add]
    rw [cell_of_row w _ _ cur e (0, 0) hg]
    rw [← ht, List.getElem?_take] at hc
    split at hc
    · simpa using hc
    · cases hc
theorem Hp.sl {i : Nat} {e : TypeId} (h : Hp w0 w L) (hi : L[i]? = some (.row v e sz n cells)) : Sl w v sz n cells := Sl.of_row (h.get hi)
theorem Hp.slBlk {i b : Nat} {c : Array Value} {e : TypeId} (h : Hp w0 w L) (hi : L[i]? = some (.blk b (.cells c e (0, 0)))) (hl : c.size = n * sz) (hs : n ≤ maxLen) : Sl w (.slice (some ⟨b, 0, none⟩) n n) sz n c.toList :=
  ⟨⟨_, n, rfl, Nat.le_refl _, fun _ => rfl⟩, by simpa using hl, fun j u hu => by
    simp only [sb, so, Nat.zero_add]
    exact h.cell hi (by simpa using hu), hs⟩
section ops
variable {σ : Env} {dst : Option Tmp} {ty t : TypeId} {pos : String} {aft : Array Edge} {g : Option (Nat × Bool)} {x y : Operand}
theorem run_indexAddrS {e : TypeId} {k : IntKind} {i : Int} (hS : Sl w v sz n cells) (hu : P.underlying t = some (.slice e)) (hs : ∀ w, (sizeOf e).run P w = .ok sz w)
    (hx : ev σ x = v) (hy : ev σ y = .int k i) (hi : 0 ≤ i ∧ i < n) :
    (execOp (ev σ) ⟨dst, .indexAddr t x y, ty, pos, aft, g⟩).run P w = .ok (.value (.pointer (some ⟨sb v, so v + i.toNat * sz, none⟩))) w := by
  obtain ⟨a, cap, hv, hnc, ha⟩ := hS.shape
  have ha' := ha (by omega)
  have hx' : ev σ x = .slice (some ⟨sb v, so v, none⟩) n cap := by rw [hx, hv, ← hv]; rw [← ha']; exact hv
  simp [execOp, Instr.indexAt, run_underlying hu, hx', hy, asIntOf, hi, hs, Addr.add_mid]
theorem run_lenSl {e : TypeId} {ats : Array TypeId} (hS : Sl w v sz n cells) (ht : ats[0]? = some t) (hu : P.underlying t = some (.slice e)) (hx : ev σ x = v) :
    (execOp (ev σ) ⟨dst, .call { callee := .builtin .len, args := #[x], argTypes := ats }, ty, pos, aft, g⟩).run P w = .ok (.value (I n)) w := by
  obtain ⟨a, cap, hv, hnc, ha⟩ := hS.shape
  exact run_lenS ht hu hx hv
end ops
end sl
/-! ### The operations, with what is owned -/
section hops
variable {P : Program} {n : Nat} {ops : Array Oper} {k : K} {rest : List Oper} {σ : Env} {w0 w : World} {L : List Ent} {op : Op} {ty : TypeId} {pos : String} {aft : Array Edge} {d : Nat}
theorem RL.new {o : Obj} (hd : Nat.blt d n = true) (hH : Hp w0 w L) {f : Nat → Value} (hr : (execOp (ev σ) ⟨some d, op, ty, pos, aft, none⟩).run P w = .ok (.value (f w.heap.size)) (w.alloc o))
    (hk : ∀ b w', Hp w0 w' (.blk b o :: L) → RL P n ops k rest (upd σ d (f b)) w') : RL P n ops k (⟨some d, op, ty, pos, aft, none⟩ :: rest) σ w :=
  RL.val hd hr (hk _ _ (hH.alloc o))
theorem RL.set {i b : Nat} {c c' : Array Value} {e : TypeId} (hH : Hp w0 w L) (hi : L[i]? = some (.blk b (.cells c e (0, 0))))
    (hr : (execOp (ev σ) ⟨none, op, ty, pos, aft, none⟩).run P w = .ok .skip (w.setRow b c'))
    (hk : ∀ w', Hp w0 w' (L.set i (.blk b (.cells c' e (0, 0)))) → RL P n ops k rest σ w') : RL P n ops k (⟨none, op, ty, pos, aft, none⟩ :: rest) σ w :=
  RL.eff hr (hk _ (hH.set hi))
def Pure (v : Value) (w : World) : Ending → World → Prop := Ret fun u w' => u = v ∧ Below w.heap.size w w'
def PureRow (e : TypeId) (sz m : Nat) (xs : List Value) (w : World) : Ending → World → Prop := Ret fun v w' => w'.ownsRow w.heap.size e sz v m xs ∧ Below w.heap.size w w'
theorem RL.callP {f : FuncId} {args : Array Value} {v : Value} (hd : Nat.blt d n = true) (hH : Hp w0 w L) (hc : Calls P f args w (Pure v w))
    (hr : (execOp (ev σ) ⟨some d, op, ty, pos, aft, none⟩).run P w = .ok (.enter f args) w)
    (hk : ∀ w', Hp w0 w' L → RL P n ops k rest (upd σ d v) w') : RL P n ops k (⟨some d, op, ty, pos, aft, none⟩ :: rest) σ w :=
  RL.call hd hr hc fun u w' ⟨hu, hb⟩ => by subst hu; exact hk w' (hH.call hb)
theorem RL.callR {f : FuncId} {args : Array Value} {e : TypeId} {sz m : Nat} {xs : List Value} (hd : Nat.blt d n = true) (hH : Hp w0 w L) (hc : Calls P f args w (PureRow e sz m xs w))
    (hr : (execOp (ev σ) ⟨some d, op, ty, pos, aft, none⟩).run P w = .ok (.enter f args) w)
    (hk : ∀ v w', Hp w0 w' (.row v e sz m xs :: L) → RL P n ops k rest (upd σ d v) w') : RL P n ops k (⟨some d, op, ty, pos, aft, none⟩ :: rest) σ w :=
  RL.call hd hr hc fun u w' ⟨hu, hb⟩ => hk u w' (hH.callRow hb hu)
end hops
/-! ### A region that draws its order: what only reads is taken first -/
def AN (P : Program) (n : Nat) (l : List Oper) (S : World → Prop) (k : K) (fuel : Nat) (listed : Array Bool) (σ : Env) (w : World) : Prop :=
  ∀ a, Is n σ a → wpAnyH P .any l.toArray (rpost n k) S fuel listed a w
section anyorder
variable {P : Program} {n : Nat} {l : List Oper} {S : World → Prop} {k : K} {xs : List (Nat × K)} {r : K} {σ : Env} {w w0 : World} {L : List Ent} {fuel i d : Nat} {listed : Array Bool} {op : Op} {ty : TypeId} {pos : String} {aft : Array Edge} {g : Option (Nat × Bool)} {v : Value} {dst : Option Tmp}
theorem CW.regionD {id : Nat} (hm : P.follows .mixedOrders = true) (hH : Hp w0 w L)
    (h : ∀ w', Hp w0 w' L → AN P n l (fun w => Hp w0 w L) k l.length (Array.replicate l.length false) σ w') : CW P n (.region id l.toArray true) k xs r σ w := by
  intro a ha
  refine Code.wp_mono (fun e a' w' hq => ?_) (wp_region_any (id := id) (Q := rpost n k) hm (wpAny_of_held (S := fun w => Hp w0 w L) _ _ _ _ ?_))
  · cases e with
    | normal => exact hq
    | exit id => exact hq.elim
    | ret => exact hq.elim
    | goto l => exact hq.elim
    | panic c => exact hq.elim
    | outgrown => exact hq.elim
  · have := h _ hH.drew a ha
    simpa using this
theorem AN.done (hr : Region.ready .any l.toArray listed = []) (h : k σ w) : AN P n l S k fuel listed σ w := by
  intro a ha
  cases fuel with
  | zero => exact ⟨hr, σ, ha, h⟩
  | succ f => exact ⟨fun _ => ⟨σ, ha, h⟩, fun i hi => by rw [hr] at hi; cases hi⟩
theorem AN.take (i : Nat) (hi : l[i]? = some ⟨some d, op, ty, pos, aft, none⟩) (hd : Nat.blt d n = true) (hs : Region.noSelect l.toArray = true) (hf : Region.free .any l.toArray listed i = true)
    (hr : (Region.ready .any l.toArray listed).contains i = true) (hS : S w) (hy : ∀ w, S w → (execOp (ev σ) ⟨some d, op, ty, pos, aft, none⟩).run P w = .ok (.value v) w)
    (h : AN P n l S k fuel (listed.setIfInBounds i true) (upd σ d v) w) : AN P n l S k (fuel + 1) listed σ w := by
  intro a ha
  refine wpAnyH_take (i := i) (oi := ⟨some d, op, ty, pos, aft, none⟩) (v := v) (by simpa using hi) hs hf hr (fun c a w hq => hq.elim) (.inl ⟨rfl, fun w hw => ?_⟩) hS (h _ (ha.put hd v))
  rw [ha.eval]; exact hy w hw
theorem AN.takeG (i : Nat) {j dj : Nat} {want : Bool} (hi : l[i]? = some ⟨some d, op, ty, pos, aft, some (j, want)⟩) (hj : (l[j]?).bind (·.dst) = some dj) (hb : σ dj = .bool want) (hd : Nat.blt d n = true)
    (hs : Region.noSelect l.toArray = true) (hf : Region.free .any l.toArray listed i = true)
    (hr : (Region.ready .any l.toArray listed).contains i = true) (hS : S w) (hy : ∀ w, S w → (execOp (ev σ) ⟨some d, op, ty, pos, aft, some (j, want)⟩).run P w = .ok (.value v) w)
    (h : AN P n l S k fuel (listed.setIfInBounds i true) (upd σ d v) w) : AN P n l S k (fuel + 1) listed σ w := by
  intro a ha
  refine wpAnyH_take (i := i) (oi := ⟨some d, op, ty, pos, aft, some (j, want)⟩) (v := v) (by simpa using hi) hs hf hr (fun c a w hq => hq.elim)
    (.inl ⟨by rw [wanted_of ha (by simpa using hj) hb]; simp, fun w hw => ?_⟩) hS (h _ (ha.put hd v))
  rw [ha.eval]; exact hy w hw
def AO (P : Program) (n : Nat) (l : List Oper) (S : World → Prop) (k : K) (fuel : Nat) (listed : Array Bool) (σ : Env) (w : World) (i : Nat) : Prop :=
  ∀ a, Is n σ a → wpOp P l.toArray (rpost n k) i (fun a' w' => S w' ∧ wpAnyH P .any l.toArray (rpost n k) S fuel (listed.setIfInBounds i true) a' w') a w
theorem AN.all (rs : List Nat) (hr : Region.ready .any l.toArray listed = rs) (hne : rs.isEmpty = false) (h : ∀ i ∈ rs, AO P n l S k fuel listed σ w i) : AN P n l S k (fuel + 1) listed σ w := by
  intro a ha
  exact wpAnyH_all hr (by intro h0; simp [h0] at hne) fun i hi => h i hi a ha
theorem AN.one (i : Nat) (hr : Region.ready .any l.toArray listed = [i]) (h : AO P n l S k fuel listed σ w i) : AN P n l S k (fuel + 1) listed σ w :=
  AN.all [i] hr rfl fun j hj => by simp at hj; subst hj; exact h
theorem AO.gen {o : Oper} (hi : l[i]? = some o) (hw : ∀ a, Is n σ a → Region.wanted o (yielded l.toArray a.tmps) = true)
    (h : ∀ a, Is n σ a → o.upon P a (fun a' w' => S w' ∧ wpAnyH P .any l.toArray (rpost n k) S fuel (listed.setIfInBounds i true) a' w') (rpost n k) ((execOp (ev σ) o).run P w)) : AO P n l S k fuel listed σ w i := by
  intro a ha
  have hi' : l.toArray[i]? = some o := by simpa using hi
  unfold wpOp
  simp only [hi', hw a ha, if_true]
  refine .inl ?_
  unfold Oper.wp
  rw [ha.eval]
  exact h a ha
theorem AO.val {w' : World} (hi : l[i]? = some ⟨some d, op, ty, pos, aft, g⟩) (hg : ∀ a, Is n σ a → Region.wanted ⟨some d, op, ty, pos, aft, g⟩ (yielded l.toArray a.tmps) = true) (hd : Nat.blt d n = true)
    (hr : (execOp (ev σ) ⟨some d, op, ty, pos, aft, g⟩).run P w = .ok (.value v) w') (hS : S w') (h : AN P n l S k fuel (listed.setIfInBounds i true) (upd σ d v) w') : AO P n l S k fuel listed σ w i :=
  AO.gen hi hg fun a ha => by rw [hr]; exact ⟨hS, h _ (ha.put hd v)⟩
theorem AO.eff {w' : World} (hi : l[i]? = some ⟨none, op, ty, pos, aft, g⟩) (hg : ∀ a, Is n σ a → Region.wanted ⟨none, op, ty, pos, aft, g⟩ (yielded l.toArray a.tmps) = true)
    (hr : (execOp (ev σ) ⟨none, op, ty, pos, aft, g⟩).run P w = .ok .skip w') (hS : S w') (h : AN P n l S k fuel (listed.setIfInBounds i true) σ w') : AO P n l S k fuel listed σ w i :=
  AO.gen hi hg fun a ha => by rw [hr]; exact ⟨hS, h _ ha⟩
theorem AO.call {f : FuncId} {args : Array Value} {q : Value → World → Prop} (hi : l[i]? = some ⟨some d, op, ty, pos, aft, g⟩) (hg : ∀ a, Is n σ a → Region.wanted ⟨some d, op, ty, pos, aft, g⟩ (yielded l.toArray a.tmps) = true) (hd : Nat.blt d n = true)
    (hc : Calls P f args w (Ret q)) (hr : (execOp (ev σ) ⟨some d, op, ty, pos, aft, g⟩).run P w = .ok (.enter f args) w)
    (h : ∀ v w', q v w' → S w' ∧ AN P n l S k fuel (listed.setIfInBounds i true) (upd σ d v) w') : AO P n l S k fuel listed σ w i :=
  AO.gen hi hg fun a ha => by
    rw [hr]
    refine hc.mono fun e w' hq => ?_
    cases e with
    | returned v => exact ⟨(h v w' hq).1, (h v w' hq).2 _ (ha.put hd v)⟩
    | panicked c => exact hq.elim
    | outgrown => exact hq.elim
theorem gnone (a : Act) (_ : Is n σ a) : Region.wanted ⟨dst, op, ty, pos, aft, none⟩ (yielded l.toArray a.tmps) = true := rfl
theorem gsome {j dj : Nat} {want : Bool} (hj : (l[j]?).bind (·.dst) = some dj) (hb : σ dj = .bool want) (a : Act) (ha : Is n σ a) : Region.wanted ⟨dst, op, ty, pos, aft, some (j, want)⟩ (yielded l.toArray a.tmps) = true := by
  rw [wanted_of ha (by simpa using hj) hb]; simp
theorem AO.new {L' : List Ent} {o : Obj} {f : Nat → Value} (hi : l[i]? = some ⟨some d, op, ty, pos, aft, g⟩) (hg : ∀ a, Is n σ a → Region.wanted ⟨some d, op, ty, pos, aft, g⟩ (yielded l.toArray a.tmps) = true) (hd : Nat.blt d n = true)
    (hH : Hp w0 w L') (hs : L.Sublist L') (hr : (execOp (ev σ) ⟨some d, op, ty, pos, aft, g⟩).run P w = .ok (.value (f w.heap.size)) (w.alloc o))
    (h : ∀ b w', Hp w0 w' (.blk b o :: L') → AN P n l (fun w => Hp w0 w L) k fuel (listed.setIfInBounds i true) (upd σ d (f b)) w') : AO P n l (fun w => Hp w0 w L) k fuel listed σ w i :=
  AO.val hi hg hd hr ((hH.alloc o).sub (hs.cons _)) (h _ _ (hH.alloc o))
theorem AO.callP {L' : List Ent} {f : FuncId} {args : Array Value} (hi : l[i]? = some ⟨some d, op, ty, pos, aft, g⟩) (hg : ∀ a, Is n σ a → Region.wanted ⟨some d, op, ty, pos, aft, g⟩ (yielded l.toArray a.tmps) = true) (hd : Nat.blt d n = true)
    (hH : Hp w0 w L') (hs : L.Sublist L') (hc : Calls P f args w (Pure v w)) (hr : (execOp (ev σ) ⟨some d, op, ty, pos, aft, g⟩).run P w = .ok (.enter f args) w)
    (h : ∀ w', Hp w0 w' L' → AN P n l (fun w => Hp w0 w L) k fuel (listed.setIfInBounds i true) (upd σ d v) w') : AO P n l (fun w => Hp w0 w L) k fuel listed σ w i :=
  AO.call hi hg hd hc hr fun u w' ⟨hu, hb⟩ => by subst hu; exact ⟨(hH.call hb).sub hs, h w' (hH.call hb)⟩
theorem AO.callR {L' : List Ent} {f : FuncId} {args : Array Value} {e : TypeId} {sz m : Nat} {ys : List Value} (hi : l[i]? = some ⟨some d, op, ty, pos, aft, g⟩) (hg : ∀ a, Is n σ a → Region.wanted ⟨some d, op, ty, pos, aft, g⟩ (yielded l.toArray a.tmps) = true) (hd : Nat.blt d n = true)
    (hH : Hp w0 w L') (hs : L.Sublist L') (hc : Calls P f args w (PureRow e sz m ys w)) (hr : (execOp (ev σ) ⟨some d, op, ty, pos, aft, g⟩).run P w = .ok (.enter f args) w)
    (h : ∀ u w', Hp w0 w' (.row u e sz m ys :: L') → AN P n l (fun w => Hp w0 w L) k fuel (listed.setIfInBounds i true) (upd σ d u) w') : AO P n l (fun w => Hp w0 w L) k fuel listed σ w i :=
  AO.call hi hg hd hc hr fun u w' ⟨hu, hb⟩ => ⟨(hH.call hb).sub hs, h u w' (hH.callRow hb hu)⟩
end anyorder
/-! ### Shorthands for texts that are written by program -/
def Fr (ws : List Nat) (σ σ' : Env) : Prop := ∀ i, ws.contains i = false → σ' i = σ i
theorem Fr.refl (ws : List Nat) (σ : Env) : Fr ws σ σ := fun _ _ => rfl
theorem Fr.u {ws : List Nat} {σ σ' : Env} {d : Nat} {v : Value} (h : Fr ws σ σ') (hd : ws.contains d = true) : Fr ws σ (upd σ' d v) := fun i hi => by
  rw [upd_ne]; exact h i hi
  intro e; subst e; rw [hd] at hi; cases hi
theorem Fr.t {ws ws2 : List Nat} {σ σ' σ'' : Env} (h : Fr ws σ σ') (h2 : Fr ws2 σ' σ'') (hs : ws2.all (ws.contains ·) = true) : Fr ws σ σ'' := fun i hi => by
  rw [h2 i, h i hi]
  cases hc : ws2.contains i with
  | false => rfl
  | true =>
    have := List.all_eq_true.1 hs i (by simpa using hc)
    rw [hi] at this; cases this
section short
variable {P : Program} {n : Nat} {ops : Array Oper} {k : K} {xs : List (Nat × K)} {r : K} {rest l : List Oper} {σ : Env} {w : World} {b : Bool} {p : Prop} {v : Value}
theorem bT [Decidable p] (h : p) : Value.bool (decide p) = .bool true := congrArg Value.bool (decide_eq_true h)
theorem bF [Decidable p] (h : ¬ p) : Value.bool (decide p) = .bool false := congrArg Value.bool (decide_eq_false h)
theorem bR {c : Bool} (h : b = c) : Value.bool b = .bool c := congrArg Value.bool h
theorem RL.split {dj : Nat} (hb : σ dj = .bool b) (ht : b = true → RL P n ops k l σ w) (hf : b = false → RL P n ops k l σ w) : RL P n ops k l σ w := by
  cases b
  · exact hf rfl
  · exact ht rfl
theorem RL.splitP [Decidable p] {dj : Nat} (hb : σ dj = .bool (decide p)) (ht : p → RL P n ops k l σ w) (hf : ¬ p → RL P n ops k l σ w) : RL P n ops k l σ w :=
  RL.split hb (fun h => ht (of_decide_eq_true h)) (fun h => hf (of_decide_eq_false h))
theorem AN.split {S : World → Prop} {fuel : Nat} {listed : Array Bool} {dj : Nat} (hb : σ dj = .bool b) (ht : b = true → AN P n l S k fuel listed σ w) (hf : b = false → AN P n l S k fuel listed σ w) : AN P n l S k fuel listed σ w := by
  cases b
  · exact hf rfl
  · exact ht rfl
theorem AN.splitP {S : World → Prop} {fuel : Nat} {listed : Array Bool} [Decidable p] {dj : Nat} (hb : σ dj = .bool (decide p)) (ht : p → AN P n l S k fuel listed σ w) (hf : ¬ p → AN P n l S k fuel listed σ w) : AN P n l S k fuel listed σ w :=
  AN.split hb (fun h => ht (of_decide_eq_true h)) (fun h => hf (of_decide_eq_false h))
variable {dst : Option Tmp} {ty : TypeId} {pos : String} {aft : Array Edge} {g : Option (Nat × Bool)} {f : FuncId} {ats : Array TypeId} {x1 x2 x3 x4 x5 x6 x : Operand} {v1 v2 v3 v4 v5 v6 : Value} {cap : Array Value}
theorem run_call0 (hf : ∀ args w, (callFunc f args).run P w = .ok (.enter f args) w) :
    (execOp (ev σ) ⟨dst, .call { callee := .value (.func f), args := #[], argTypes := ats }, ty, pos, aft, g⟩).run P w = .ok (.enter f #[]) w := run_call (as := []) hf rfl
theorem run_call1 (hf : ∀ args w, (callFunc f args).run P w = .ok (.enter f args) w) (h1 : ev σ x1 = v1) :
    (execOp (ev σ) ⟨dst, .call { callee := .value (.func f), args := #[x1], argTypes := ats }, ty, pos, aft, g⟩).run P w = .ok (.enter f #[v1]) w := run_call (as := [x1]) hf (by simp [h1])
theorem run_call2 (hf : ∀ args w, (callFunc f args).run P w = .ok (.enter f args) w) (h1 : ev σ x1 = v1) (h2 : ev σ x2 = v2) :
    (execOp (ev σ) ⟨dst, .call { callee := .value (.func f), args := #[x1, x2], argTypes := ats }, ty, pos, aft, g⟩).run P w = .ok (.enter f #[v1, v2]) w := run_call (as := [x1, x2]) hf (by simp [h1, h2])
theorem run_call3 (hf : ∀ args w, (callFunc f args).run P w = .ok (.enter f args) w) (h1 : ev σ x1 = v1) (h2 : ev σ x2 = v2) (h3 : ev σ x3 = v3) :
    (execOp (ev σ) ⟨dst, .call { callee := .value (.func f), args := #[x1, x2, x3], argTypes := ats }, ty, pos, aft, g⟩).run P w = .ok (.enter f #[v1, v2, v3]) w := run_call (as := [x1, x2, x3]) hf (by simp [h1, h2, h3])
theorem run_call4 (hf : ∀ args w, (callFunc f args).run P w = .ok (.enter f args) w) (h1 : ev σ x1 = v1) (h2 : ev σ x2 = v2) (h3 : ev σ x3 = v3) (h4 : ev σ x4 = v4) :
    (execOp (ev σ) ⟨dst, .call { callee := .value (.func f), args := #[x1, x2, x3, x4], argTypes := ats }, ty, pos, aft, g⟩).run P w = .ok (.enter f #[v1, v2, v3, v4]) w := run_call (as := [x1, x2, x3, x4]) hf (by simp [h1, h2, h3, h4])
theorem run_callV1 (hf : ∀ args w, (callFunc f args).run P w = .ok (.enter f args) w) (hx : ev σ x = .func (.func f) #[] cap) (h1 : ev σ x1 = v1) :
    (execOp (ev σ) ⟨dst, .call { callee := .value x, args := #[x1], argTypes := ats }, ty, pos, aft, g⟩).run P w = .ok (.enter f (#[v1] ++ cap)) w := run_callV (as := [x1]) hf hx (by simp [h1])
theorem run_mkF1 {fn : Fn} (h1 : ev σ x1 = v1) : (execOp (ev σ) ⟨dst, .makeFunc fn #[] #[x1], ty, pos, aft, g⟩).run P w = .ok (.value (.func fn #[] #[v1])) w := run_makeFunc (cs := [x1]) (by simp [h1])
theorem run_mkF2 {fn : Fn} (h1 : ev σ x1 = v1) (h2 : ev σ x2 = v2) : (execOp (ev σ) ⟨dst, .makeFunc fn #[] #[x1, x2], ty, pos, aft, g⟩).run P w = .ok (.value (.func fn #[] #[v1, v2])) w := run_makeFunc (cs := [x1, x2]) (by simp [h1, h2])
variable {fn : Func} {w0 : World}
theorem outP1 {t : Nat} (h : fn.results = #[.tmp t]) (hv : σ t = v) (hb : Below w0.heap.size w0 w) : Out P fn (fun u w' => u = v ∧ Below w0.heap.size w0 w') σ w := out1 h hv ⟨rfl, hb⟩
theorem outP2 {t u : Nat} {y z : Value} (h : fn.results = #[.tmp t, .tmp u]) (hy : σ t = y) (hz : σ u = z) (hb : Below w0.heap.size w0 w) : Out P fn (fun u w' => u = .tuple #[y, z] ∧ Below w0.heap.size w0 w') σ w := out2 h hy hz ⟨rfl, hb⟩
end short
/-! ### append onto a row of the call's own -/
section app
variable {P : Program} {w0 w : World} {L : List Ent}
theorem run_appendE {base : Nat} {t ty e : TypeId} {i : TypeInfo} {z : Value} {size bytes : Nat} (ht : P.underlying t = some (.slice e)) (hi : P.info? e = some i) (hz : i.zero = some z)
    (hsize : i.size = size) (hby : i.bytes = bytes) (hzs : z.cells.size = size) (hsz : 0 < size)
    {v : Value} {n : Nat} {xs : List Value} (hown : w.ownsRow base e size v n xs) {y : Value} {m : Nat} {news : List Value} (hS : Sl w y size m news) (h1 : ∀ u ∈ news, u.oneCell' = true)
    (h63 : n + m ≤ maxLen) (hbytes : (n + m) * bytes ≤ 140737488355328) (hbase : base ≤ w.heap.size) :
    ∃ v' w', (Builtin.append_ #[t, t] ty #[v, y]).run P w = .ok v' w' ∧ w'.ownsRow base e size v' (n + m) (xs ++ news) ∧ w.grownBy w' v.ownBlock ∧
      (v'.ownBlock = none ∨ v'.ownBlock = v.ownBlock ∨ v'.ownBlock = some w.heap.size) := by
  obtain ⟨a, c, hy, hnc, ha⟩ := hS.shape
  by_cases hm : m = 0
  · subst hm
    have hn : news = [] := List.eq_nil_of_length_eq_zero (by simpa using hS.len)
    subst hn
    refine ⟨v, w, ?_, by simpa using hown, ⟨rfl, rfl, rfl, Nat.le_refl _, fun _ _ _ => rfl⟩, .inr (.inl rfl)⟩
    subst hy
    rcases hown.2 with ⟨rfl, rfl⟩ | ⟨g, cap, cur, rfl, hbg, hg, hnc, hcm, hcs, htake⟩
    · cases a <;> simp [Builtin.append_, run_underlying ht, sizeOf, typeInfo, hi, Builtin.lenOf, Builtin.firstCells, loadCells, loadCellsFrom]
    · cases a <;> simp [Builtin.append_, run_underlying ht, sizeOf, typeInfo, hi, Builtin.lenOf, Builtin.firstCells, loadCells, loadCellsFrom, hnc, storeCells]
  · have ha' := ha (by omega)
    have hyy : y = .slice (some ⟨sb y, so y, none⟩) m c := by rw [← ha']; exact hy
    have hnews : ∀ j u, news[j]? = some u → w.cell? ((⟨sb y, so y, none⟩ : Addr).add j) = some u := fun j u hu => by rw [Addr.add_mid]; exact hS.cell j u hu
    obtain ⟨v', w', hr, h2, h3, h4⟩ := run_append_own (P := P) w base t ty e i z size bytes ht hi hz hsize hby hzs hsz v n xs hown ⟨sb y, so y, none⟩ m c news hS.len hnews h1 h63 hbytes hbase
    rw [hyy]
    refine ⟨v', w', hr, h2, h3, ?_⟩
    subst hsize
    subst hby
    have hsmall : n + m ≤ 9223372036854775807 := by simp only [maxLen] at h63; omega
    rcases hown.2 with ⟨rfl, rfl⟩ | ⟨g, cap, cur, rfl, hbg, hg, hnc, hcm, hcs, htake⟩
    · have hr2 := run_append_nil (P := P) w t ty e i z ht hi hz ⟨sb y, so y, none⟩ m c news hS.len hnews (by omega) (by omega) (by have hb := hbytes; simp only [Nat.zero_add] at hb; omega)
      rw [hr2] at hr
      injection hr with e1 e2
      subst e1
      exact .inr (.inr rfl)
    · by_cases hroom : n + m ≤ cap
      · have hfit : n * i.size + news.length ≤ cur.size := by rw [hS.len, hcs, ← Nat.add_mul]; exact Nat.mul_le_mul_right _ hroom
        have hr2 := run_append_room (P := P) w t ty e i ht hi g n cap cur hg ⟨sb y, so y, none⟩ m c news hS.len hnews h1 hroom hfit
        rw [hr2] at hr
        injection hr with e1 e2
        subst e1
        exact .inr (.inl rfl)
      · have holds : ∀ j u, xs[j]? = some u → w.cell? ((⟨g, 0, none⟩ : Addr).add j) = some u := hown.cells (g := g) rfl
        have hr2 := run_append_grow (P := P) w t ty e i z ht hi hz ⟨g, 0, none⟩ n cap xs hown.1 holds ⟨sb y, so y, none⟩ m c news hS.len hnews (by omega) (by omega) (growslice_fits (by omega) hbytes)
        rw [hr2] at hr
        injection hr with e1 e2
        subst e1
        exact .inr (.inr rfl)
theorem Hp.appended {w' : World} {i : Nat} {v v' : Value} {e : TypeId} {sz n m : Nat} {xs ys : List Value} (h : Hp w0 w L) (hi : L[i]? = some (.row v e sz n xs))
    (hr : w'.ownsRow w0.heap.size e sz v' m ys) (hg : w.grownBy w' v.ownBlock) (hf : v'.ownBlock = none ∨ v'.ownBlock = v.ownBlock ∨ v'.ownBlock = some w.heap.size) : Hp w0 w' (L.set i (.row v' e sz m ys)) := by
  have hx := h.get hi
  have hil := (List.getElem?_eq_some_iff.1 hi).1
  have hLi : L[i] = .row v e sz n xs := (List.getElem?_eq_some_iff.1 hi).2
  have hp := List.pairwise_iff_getElem.1 h.dis
  -- the others are apart from the row's block
  have hother : ∀ j (hj : j < L.length), j ≠ i → ∀ b, (L[j]).foot = some b → v.ownBlock ≠ some b := by
    intro j hj hne b hb he
    rcases Nat.lt_or_gt_of_ne hne with hlt | hgt
    · rcases hp j i hj hil hlt with h0 | h0
      · rw [hb] at h0; cases h0
      · rw [hb, hLi] at h0; exact h0 he.symm
    · rcases hp i j hil hj hgt with h0 | h0
      · rw [hLi] at h0; simp only [Ent.foot] at h0; rw [he] at h0; cases h0
      · rw [hb, hLi] at h0; exact h0 he
  refine ⟨h.below.grown hg h.size fun k hk => (hx.lt k hk).1, fun y hy => ?_, ?_⟩
  · obtain ⟨j, hj, hjy⟩ := List.mem_iff_getElem.1 hy
    rw [List.getElem_set] at hjy
    split at hjy
    · subst hjy; exact hr
    · rename_i hne
      have hjL : j < L.length := by simpa using hj
      have hyL : y ∈ L := hjy ▸ List.getElem_mem hjL
      refine Ent.ok_same (h.ok y hyL) fun b hb => hg.block b (Ent.ok_lt (h.ok y hyL) b hb).2 fun e => ?_
      exact hother j hjL (fun e => hne e.symm) b (by rw [hjy]; exact hb) e.symm
  · refine List.pairwise_iff_getElem.2 fun a b ha hb hab => ?_
    have haL : a < L.length := by simpa using ha
    have hbL : b < L.length := by simpa using hb
    rw [List.getElem_set, List.getElem_set]
    have key : ∀ j (hj : j < L.length), j ≠ i → v'.ownBlock = none ∨ (L[j]).foot = none ∨ v'.ownBlock ≠ (L[j]).foot := by
      intro j hj hne
      cases hfj : (L[j]).foot with
      | none => exact .inr (.inl rfl)
      | some c =>
        rcases hf with h0 | h0 | h0
        · exact .inl h0
        · refine .inr (.inr fun e => hother j hj hne c hfj ?_); rw [← h0, e]
        · refine .inr (.inr fun e => ?_)
          have := (Ent.ok_lt (h.ok _ (List.getElem_mem hj)) c hfj).2
          rw [h0] at e; injection e with e; omega
    by_cases hia : i = a
    · subst hia
      rw [if_pos rfl, if_neg (by omega)]
      rcases key b hbL (by omega) with h0 | h0 | h0
      · exact .inl h0
      · cases hv : v'.ownBlock with
        | none => exact .inl hv
        | some c => exact .inr (by rw [h0]; show v'.ownBlock ≠ none; rw [hv]; simp)
      · exact .inr h0
    · rw [if_neg hia]
      by_cases hib : i = b
      · subst hib
        rw [if_pos rfl]
        rcases key a haL (by omega) with h0 | h0 | h0
        · cases hv : (L[a]).foot with
          | none => exact .inl rfl
          | some c => exact .inr (by show some c ≠ v'.ownBlock; rw [h0]; simp)
        · exact .inl h0
        · exact .inr fun e => h0 e.symm
      · rw [if_neg hib]
        exact hp a b haL hbL hab
variable {n : Nat} {ops : Array Oper} {k : K} {rest : List Oper} {σ : Env} {ty : TypeId} {pos : String} {aft : Array Edge} {d : Nat} {x y : Operand}
theorem run_app {t : TypeId} {v u : Value} {w' : World} {v' : Value} {dst : Option Tmp} {g : Option (Nat × Bool)} (hx : ev σ x = v) (hy : ev σ y = u) (hr : (Builtin.append_ #[t, t] ty #[v, u]).run P w = .ok v' w') :
    (execOp (ev σ) ⟨dst, .call { callee := .builtin .append, args := #[x, y], argTypes := #[t, t] }, ty, pos, aft, g⟩).run P w = .ok (.value v') w' := by
  simp [execOp, resolve, invoke, builtin, hx, hy, hr]
theorem RL.app {t e : TypeId} {i : Nat} {ie : TypeInfo} {z : Value} {size bytes : Nat} {v u : Value} {m m' : Nat} {xs news : List Value} (hd : Nat.blt d n = true) (hH : Hp w0 w L) (hL : L[i]? = some (.row v e size m xs)) (hS : Sl w u size m' news)
    (hx : ev σ x = v) (hy : ev σ y = u) (ht : P.underlying t = some (.slice e)) (hi : P.info? e = some ie) (hz : ie.zero = some z)
    (hsize : ie.size = size) (hby : ie.bytes = bytes) (hzs : z.cells.size = size) (hsz : 0 < size) (h1 : ∀ u ∈ news, u.oneCell' = true)
    (hbytes : (m + m') * bytes ≤ 140737488355328) (h63 : m + m' ≤ maxLen)
    (hk : ∀ v' w', Hp w0 w' (L.set i (.row v' e size (m + m') (xs ++ news))) → RL P n ops k rest (upd σ d v') w') :
    RL P n ops k (⟨some d, .call { callee := .builtin .append, args := #[x, y], argTypes := #[t, t] }, ty, pos, aft, none⟩ :: rest) σ w := by
  obtain ⟨v', w', hr, h2, h3, h4⟩ := run_appendE (P := P) (ty := ty) ht hi hz hsize hby hzs hsz (hH.get hL) hS h1 h63 hbytes hH.size
  exact RL.val hd (run_app hx hy hr) (hk v' w' (hH.appended hL h2 h3 h4))
end app
theorem clI (k : IntKind) (n : Int) : (Value.int k n).cells.toList = [Value.int k n] := rfl
theorem clB (b : Bool) : (Value.bool b).cells.toList = [Value.bool b] := rfl
theorem clS (b : ByteArray) : (Value.string b).cells.toList = [Value.string b] := rfl
theorem clP (a : Option Addr) : (Value.pointer a).cells.toList = [Value.pointer a] := rfl
theorem clL (a : Option Addr) (n c : Nat) : (Value.slice a n c).cells.toList = [Value.slice a n c] := rfl
theorem clA (l : List Value) : (Value.agg l.toArray).cells.toList = l := rfl
section more
variable {P : Program} {w0 w : World} {L L' : List Ent} {fn : Func} {σ : Env}
theorem Hp.conv (h : Hp w0 w L) (e : L = L') : Hp w0 w L' := e ▸ h
theorem Hp.perm (h : Hp w0 w L) (hp : L.Perm L') : Hp w0 w L' :=
  ⟨h.below, fun x hx => h.ok x (hp.mem_iff.2 hx), hp.pairwise h.dis fun {x y} hxy => by
    cases hy : y.foot with
    | none => exact .inl rfl
    | some b =>
      right
      rcases hxy with h0 | h0
      · rw [h0]; simp
      · rw [hy] at h0; exact fun e => h0 e.symm⟩
theorem outR {t i : Nat} {v : Value} {e : TypeId} {sz n n' : Nat} {xs xs' : List Value} (h : fn.results = #[.tmp t]) (hv : σ t = v) (hH : Hp w0 w L) (hi : L[i]? = some (.row v e sz n xs)) (hn : n = n') (hx : xs = xs') :
    Out P fn (fun u w' => w'.ownsRow w0.heap.size e sz u n' xs' ∧ Below w0.heap.size w0 w') σ w := by
  subst hn; subst hx
  exact out1 h hv ⟨hH.get hi, hH.below⟩
theorem map_at {xs : List Int} {k : Int} (h : 0 ≤ k ∧ k < xs.length) : (xs.map I)[k.toNat * 1]? = some (I (xs.getD k.toNat 0)) := by
  have hk : k.toNat < xs.length := by omega
  simp [hk, List.getD_eq_getElem?_getD]
end more
end Go.Proofs.YtdfbimlpondblaaDoor.E
