/-
  Operations that are counted (ch. 17): what functions, what meters, what tables lie in memory.
-/
import Derived.Test.YtdfbimlpondblaaGreatDoorTal
import Derived.Test.YtdfbimlpondblaaGreatDoorCod
namespace Go.Proofs.YtdfbimlpondblaaGreatDoor.E
open Go Go.RowKit Go.Proofs.YtdfbimlpondblaaGreatDoor.M
set_option linter.unusedVariables false
set_option linter.unusedSimpArgs false
structure Cn where
  e : Int
  l : Int
  j : Int
def cn0 : Cn := ⟨0, 0, 0⟩
def Cn.ok (c : Cn) : Prop := (0 ≤ c.e ∧ c.e ≤ 1000000) ∧ (0 ≤ c.l ∧ c.l ≤ 1000000) ∧ (0 ≤ c.j ∧ c.j ≤ 1000000)
inductive Kd
  | e
  | l
  | j
def Kd.up (c : Cn) : Kd → Cn
  | .e => ⟨c.e + 1, c.l, c.j⟩
  | .l => ⟨c.e, c.l + 1, c.j⟩
  | .j => ⟨c.e, c.l, c.j + 1⟩
inductive Wr
  | base (p : Shp) (tb : TbM)
  | wrap (m : Nat) (d : Wr)
structure TaT where
  ofE : FuncId
  leq : FuncId
  jn : FuncId
  w1 : FuncId
  w2 : FuncId
  w3 : FuncId
  w4 : FuncId
  tsh : TypeId
  t8 : TypeId
  tfn : TypeId
  tm : TypeId
  tops : TypeId
  tmet : TypeId
  tt : TypeId
abbrev pt (b : Nat) : Value := .pointer (some ⟨b, 0, none⟩)
abbrev fnV (f : FuncId) (cs : Array Value) : Value := .func (.func f) #[] cs
def OpsV (T : TaT) (K : Vu) : Wr → Value → Value → Value → Prop
  | .base p tb, e, l, j => ∃ B1 B2, e = fnV T.ofE #[pt B1] ∧ l = fnV T.leq #[] ∧ j = fnV T.jn #[pt B2] ∧ K B1 (.cells (shpC p) T.tsh (0, 0)) ∧ ShpV K p ∧ K B2 (.cells (tbL tb).toArray T.t8 (0, 0))
  | .wrap m d, e, l, j => ∃ b2 b3 b5 e' l' j', e = fnV T.w2 #[pt b5, pt b3] ∧ l = fnV T.w3 #[pt b5, pt b3] ∧ j = fnV T.w4 #[pt b5, pt b3] ∧ K b5 (.cells #[fnV T.w1 #[pt b2]] T.tfn (0, 0)) ∧ K b2 (.cells #[pt m] T.tm (0, 0)) ∧ K b3 (.cells #[e', l', j'] T.tops (0, 0)) ∧ OpsV T K d e' l' j'
theorem OpsV.mono {T : TaT} {K K' : Vu} (hl : Le K K') {d : Wr} : ∀ {e l j : Value}, OpsV T K d e l j → OpsV T K' d e l j := by
  induction d with
  | base p tb => rintro e l j ⟨B1, B2, h1, h2, h3, h4, h5, h6⟩; exact ⟨B1, B2, h1, h2, h3, hl _ _ h4, h5.mono hl, hl _ _ h6⟩
  | wrap m d ih => rintro e l j ⟨b2, b3, b5, e', l', j', h1, h2, h3, h4, h5, h6, h7⟩; exact ⟨b2, b3, b5, e', l', j', h1, h2, h3, hl _ _ h4, hl _ _ h5, hl _ _ h6, ih h7⟩
theorem OpsV.one {T : TaT} {K : Vu} {d : Wr} {e l j : Value} (h : OpsV T K d e l j) : ∃ f g k a b c, e = fnV f a ∧ l = fnV g b ∧ j = fnV k c := by
  cases d with
  | base p tb => obtain ⟨B1, B2, h1, h2, h3, -⟩ := h; exact ⟨_, _, _, _, _, _, h1, h2, h3⟩
  | wrap m d => obtain ⟨b2, b3, b5, e', l', j', h1, h2, h3, -⟩ := h; exact ⟨_, _, _, _, _, _, h1, h2, h3⟩
def Wr.sh : Wr → Shp
  | .base p _ => p
  | .wrap _ d => d.sh
def Wr.tb : Wr → TbM
  | .base _ tb => tb
  | .wrap _ d => d.tb
def Wr.inn (ids : List Nat) (tl : List (Nat × Rl)) : Wr → Prop
  | .base p tb => TbOf p.sh tb ∧ ∀ i, i < 8 → ∀ q, tb i = some q → q ∈ tl
  | .wrap m d => m ∈ ids ∧ d.inn ids tl
abbrev Ct := Nat → Cn
def putM (f : Ct) (m : Nat) (c : Cn) : Ct := fun i => if i = m then c else f i
def tick1 (k : Kd) (m : Nat) (f : Ct) : Ct := putM f m (k.up (f m))
def Wr.tick (k : Kd) : Wr → Ct → Ct
  | .base _ _, f => f
  | .wrap m d, f => d.tick k (tick1 k m f)
def blkM (T : TaT) (m : Nat) (c : Cn) : Ent := .blk m (.cells #[B true, I c.e, I c.l, I c.j] T.tmet (0, 0))
def TalZ (T : TaT) (ids : List Nat) (f : Ct) (tl : List (Nat × Rl)) (Z : List Ent) : Prop := ∃ Zt, TblZ T.tt tl Zt ∧ Z = ids.map (fun m => blkM T m (f m)) ++ Zt
theorem TalZ.pick {T : TaT} {ids : List Nat} {f : Ct} {tl : List (Nat × Rl)} {Z R : List Ent} {m : Nat} {w0 w : World} (h : TalZ T ids f tl Z) (hm : m ∈ ids) (hH : Hp w0 w (Z ++ R)) :
    ∃ Y, Z.Perm ([blkM T m (f m)] ++ Y) ∧ ∀ c, ∃ Z', TalZ T ids (putM f m c) tl Z' ∧ ([blkM T m c] ++ Y).Perm Z' := by
  obtain ⟨Zt, h1, rfl⟩ := h
  obtain ⟨pre, post, rfl⟩ := List.append_of_mem hm
  have hfeet : ∀ q ∈ pre ++ post, q ≠ m := by
    have e : ((pre ++ m :: post).map (fun i => blkM T i (f i)) ++ Zt ++ R).Perm (blkM T m (f m) :: ((pre ++ post).map (fun i => blkM T i (f i)) ++ Zt ++ R)) := by
      simp only [List.map_append, List.map_cons, List.append_assoc, List.cons_append]
      exact List.perm_middle
    have h2 := (hH.perm e).dis
    intro q hq hqe
    have h3 := (List.pairwise_cons.1 h2).1 (blkM T q (f q)) (List.mem_append_left _ (List.mem_append_left _ (List.mem_map.2 ⟨q, hq, rfl⟩)))
    rcases h3 with h3 | h3
    · cases h3
    · exact h3 (by show some m = some q; rw [hqe])
  have same : ∀ (c : Cn) (l : List Nat), (∀ q ∈ l, q ≠ m) → (l.map fun i => blkM T i (putM f m c i)) = l.map fun i => blkM T i (f i) := fun c l hl => by
    apply List.map_congr_left
    intro q hq
    unfold putM; rw [if_neg (hl q hq)]
  refine ⟨(pre ++ post).map (fun i => blkM T i (f i)) ++ Zt, ?_, fun c => ⟨_, ⟨Zt, h1, rfl⟩, ?_⟩⟩
  · simp only [List.map_append, List.map_cons, List.append_assoc, List.cons_append, List.nil_append]
    exact List.perm_middle
  · have e1 := same c pre fun q hq => hfeet q (List.mem_append_left _ hq)
    have e2 := same c post fun q hq => hfeet q (List.mem_append_right _ hq)
    have e3 : putM f m c m = c := if_pos rfl
    simp only [List.map_append, List.map_cons, e1, e2, e3, List.append_assoc, List.cons_append, List.nil_append]
    exact List.perm_middle.symm
def CallsF (P : Program) (v : Value) (args : List Value) (w : World) (Q : Ending → World → Prop) : Prop :=
  ∃ (f : FuncId) (cs : List Value), v = fnV f cs.toArray ∧ (∀ args w, (callFunc f args).run P w = .ok (.enter f args) w) ∧ Calls P f (args ++ cs).toArray w Q
theorem CallsF.mono {P : Program} {v : Value} {args : List Value} {w : World} {Q Q' : Ending → World → Prop} (h : CallsF P v args w Q) (hq : ∀ e w', Q e w' → Q' e w') : CallsF P v args w Q' := by
  obtain ⟨f, cs, h1, h2, h3⟩ := h; exact ⟨f, cs, h1, h2, h3.mono hq⟩
theorem Hp.backZ {w0 w : World} {A Zf R : List Ent} (h : Hp w0 w (Zf ++ (A ++ R))) : Hp w0 w (A ++ (Zf ++ R)) := h.perm (by
  rw [← List.append_assoc, ← List.append_assoc]
  exact List.perm_append_comm.append_right R)
section
variable {P : Program} {σ : Env} {w w' : World} {dst : Option Tmp} {t ty u : TypeId} {pos : String} {aft : Array Edge} {g : Option (Nat × Bool)} {x y x1 x2 : Operand} {v v1 v2 : Value} {f : FuncId} {ats : Array TypeId}
theorem run_callN {as : List Operand} {vs : List Value} (hf : (callFunc f vs.toArray).run P w = .ok (.value v) w') (h : as.map (ev σ) = vs) : (execOp (ev σ) ⟨dst, .call { callee := .value (.func f), args := as.toArray, argTypes := ats }, ty, pos, aft, g⟩).run P w = .ok (.value v) w' := by
  subst h
  have hf' : (callFunc f (as.map (ev σ)).toArray).run P w = .ok (.value v) w' := hf
  simp [execOp, resolve, ev, Deferred.ofValue, invoke] at hf' ⊢
  rw [hf']
theorem run_callN1 (hf : (callFunc f #[v1]).run P w = .ok (.value v) w') (h1 : ev σ x1 = v1) : (execOp (ev σ) ⟨dst, .call { callee := .value (.func f), args := #[x1], argTypes := ats }, ty, pos, aft, g⟩).run P w = .ok (.value v) w' := run_callN (as := [x1]) (vs := [v1]) hf (by simp [h1])
theorem run_callN2 (hf : (callFunc f #[v1, v2]).run P w = .ok (.value v) w') (h1 : ev σ x1 = v1) (h2 : ev σ x2 = v2) : (execOp (ev σ) ⟨dst, .call { callee := .value (.func f), args := #[x1, x2], argTypes := ats }, ty, pos, aft, g⟩).run P w = .ok (.value v) w' := run_callN (as := [x1, x2]) (vs := [v1, v2]) hf (by simp [h1, h2])
theorem add_i64 {a : Int} (h : -9223372036854775808 ≤ a + 1 ∧ a + 1 ≤ 9223372036854775807) : (Op.intArith .add .i64 a 1).run P w = .ok (.int .i64 (a + 1)) w := by
  simp [Op.intArith, wrap_id h]
theorem run_fnEq0 {fn : Fn} {a c : Array Value} (d : Nat) {ps rs : Array TypeId} {vr : Bool} (ht : P.underlying t = some (.func ps rs vr)) : (Op.equalIn (d + 1) t (.func fn a c) .nilFunc).run P w = .ok false w := by
  simp [Op.equalIn, run_underlying ht]
theorem run_eqlF {fn : Fn} {a c : Array Value} {ps rs : Array TypeId} {vr : Bool} (ht : P.underlying t = some (.func ps rs vr)) (hx : ev σ x = .func fn a c) (hy : ev σ y = .nilFunc) :
    (execOp (ev σ) ⟨dst, .binOp .eql t x y u, ty, pos, aft, g⟩).run P w = .ok (.value (.bool false)) w := by
  have h : (binOp .eql t (.func fn a c) .nilFunc).run P w = .ok (.bool false) w := by
    simp only [binOp]; simp [Op.equal, Op.maxDepth, run_fnEq0 9999 ht]
  have he : (eqGuard .eql t x y (.func fn a c) .nilFunc) = pure () := rfl
  simp only [execOp, hx, hy, he]; simp [h]
theorem run_neqF {fn : Fn} {a c : Array Value} {ps rs : Array TypeId} {vr : Bool} (ht : P.underlying t = some (.func ps rs vr)) (hx : ev σ x = .func fn a c) (hy : ev σ y = .nilFunc) :
    (execOp (ev σ) ⟨dst, .binOp .neq t x y u, ty, pos, aft, g⟩).run P w = .ok (.value (.bool true)) w := by
  have h : (binOp .neq t (.func fn a c) .nilFunc).run P w = .ok (.bool true) w := by
    simp only [binOp]; simp [Op.equal, Op.maxDepth, run_fnEq0 9999 ht]
  have he : (eqGuard .neq t x y (.func fn a c) .nilFunc) = pure () := rfl
  simp only [execOp, hx, hy, he]; simp [h]
end
end Go.Proofs.YtdfbimlpondblaaGreatDoor.E
