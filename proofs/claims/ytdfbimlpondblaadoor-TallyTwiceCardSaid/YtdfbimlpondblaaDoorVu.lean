/-
  Views: what is read of memory that nothing turns. New memory that is handed out is held as a tail of frozen blocks.
-/
import Derived.Test.YtdfbimlpondblaaDoorArr
import Derived.Test.YtdfbimlpondblaaDoorStr
namespace Go.Proofs.YtdfbimlpondblaaDoor.E
open Go Go.RowKit Go.Proofs.YtdfbimlpondblaaDoor.M
set_option linter.unusedVariables false
abbrev Vu := Nat → Obj → Prop
def Kw (w : World) : Vu := fun b o => w.heap[b]? = some o
def Kz (K : Vu) (Z : List Ent) : Vu := fun b o => K b o ∨ Ent.blk b o ∈ Z
def cellV (K : Vu) (b j : Nat) (c : Value) : Prop := ∃ cs e fr, K b (.cells cs e fr) ∧ cs[j]? = some c
structure SlV (K : Vu) (v : Value) (sz n : Nat) (cells : List Value) : Prop where
  shape : ∃ a cap, v = .slice a n cap ∧ n ≤ cap ∧ (0 < n → a = some ⟨sb v, so v, none⟩)
  len : cells.length = n * sz
  cell : ∀ j c, cells[j]? = some c → cellV K (sb v) (so v + j) c
  small : n ≤ maxLen
def Le (K K' : Vu) : Prop := ∀ b o, K b o → K' b o
theorem Le.refl (K : Vu) : Le K K := fun _ _ h => h
theorem Le.trans {K K' K'' : Vu} (h : Le K K') (h' : Le K' K'') : Le K K'' := fun b o hb => h' b o (h b o hb)
theorem Le.z (K : Vu) (Z : List Ent) : Le K (Kz K Z) := fun _ _ h => .inl h
theorem Le.zz {K : Vu} {Z Z' : List Ent} (h : ∀ x, x ∈ Z → x ∈ Z') : Le (Kz K Z) (Kz K Z') := fun b o hb => hb.imp id (h _)
theorem Le.kk {K : Vu} {Z Z' : List Ent} : Le (Kz (Kz K Z) Z') (Kz K (Z' ++ Z)) := fun b o hb => by
  rcases hb with (hb | hb) | hb
  · exact .inl hb
  · exact .inr (by simp [hb])
  · exact .inr (by simp [hb])
theorem cellV.mono {K K' : Vu} {b j : Nat} {c : Value} (h : cellV K b j c) (hl : Le K K') : cellV K' b j c := by
  obtain ⟨cs, e, fr, h1, h2⟩ := h; exact ⟨cs, e, fr, hl _ _ h1, h2⟩
theorem SlV.mono {K K' : Vu} {v : Value} {sz n : Nat} {cells : List Value} (h : SlV K v sz n cells) (hl : Le K K') : SlV K' v sz n cells := ⟨h.shape, h.len, fun j c hc => (h.cell j c hc).mono hl, h.small⟩
theorem SlV.nil (K : Vu) (sz : Nat) : SlV K (.slice none 0 0) sz 0 [] := ⟨⟨none, 0, rfl, Nat.le_refl _, fun h => by omega⟩, by simp, fun j c h => by simp at h, by simp [maxLen]⟩
section
variable {w0 w w' : World} {L L' Z : List Ent} {K : Vu} {v : Value} {sz n : Nat} {cells : List Value}
theorem SlV.sl (h : SlV (Kw w) v sz n cells) : Sl w v sz n cells := ⟨h.shape, h.len, fun j c hc => by
  obtain ⟨cs, e, fr, h1, h2⟩ := h.cell j c hc
  rw [cell_of_row w _ _ cs e fr h1]; exact h2, h.small⟩
theorem cell_view {b j : Nat} {c : Value} (h1 : w.cell? ⟨b, j, none⟩ = some c) : cellV (Kw w) b j c := by
  unfold World.cell? at h1
  cases hq : w.heap[b]? with
  | none => simp [hq] at h1
  | some o =>
    cases o with
    | cells cs e fr => simp [hq] at h1; exact ⟨cs, e, fr, hq, h1⟩
    | _ => simp [hq] at h1
theorem Sl.slv (h : Sl w v sz n cells) : SlV (Kw w) v sz n cells := ⟨h.shape, h.len, fun j c hc => cell_view (h.cell j c hc), h.small⟩
theorem Kw.below (hb : Below w.heap.size w w') : Le (Kw w) (Kw w') := fun b o h => by
  show w'.heap[b]? = some o
  rw [hb.block b (Array.getElem?_eq_some_iff.1 h).1]; exact h
theorem Hp.kw (h : Hp w0 w L) : Le (Kw w0) (Kw w) := Kw.below h.below
theorem Hp.kz (h : Hp w0 w L) (hK : Le K (Kw w0)) (hZ : ∀ x, x ∈ Z → x ∈ L) : Le (Kz K Z) (Kw w) := fun b o hb => by
  rcases hb with hb | hb
  · exact h.kw _ _ (hK _ _ hb)
  · exact (h.ok _ (hZ _ hb)).2
theorem Hp.callZ (h : Hp w0 w L) (hz : Hp w w' Z) : Hp w0 w' (Z ++ L) := by
  have h' := h.call hz.below
  refine ⟨h'.below, fun x hx => ?_, List.pairwise_append.2 ⟨hz.dis, h'.dis, fun x hx y hy => ?_⟩⟩
  · rcases List.mem_append.1 hx with hx | hx
    · have h1 := hz.ok x hx
      rcases x with ⟨b, o⟩ | ⟨v, e, sz, n, xs⟩
      · exact ⟨Nat.le_trans h.size h1.1, h1.2⟩
      · refine ⟨h1.1, ?_⟩
        rcases h1.2 with hn | ⟨gb, cap, cur, rfl, h2, rest⟩
        · exact .inl hn
        · exact .inr ⟨gb, cap, cur, rfl, Nat.le_trans h.size h2, rest⟩
    · exact h'.ok x hx
  · cases hf : x.foot with
    | none => exact .inl rfl
    | some b =>
      refine .inr fun e => ?_
      have h1 := (Ent.ok_lt (hz.ok x hx) b hf).1
      have h2 := (Ent.ok_lt (h.ok y hy) b (by rw [← e])).2
      omega
theorem Hp.zin (h : Hp w0 w (Z ++ (L ++ L'))) : Hp w0 w (L ++ (Z ++ L')) := h.perm (by
  rw [← List.append_assoc, ← List.append_assoc]
  exact (List.perm_append_comm).append_right L')
theorem Hp.frz {e : TypeId} {xs : List Value} (h : Hp w0 w (.row v e sz n xs :: L)) (K : Vu) : ∃ Z : List Ent, Hp w0 w (Z ++ L) ∧ SlV (Kz K Z) v sz n xs ∧ (∀ x ∈ Z, ∃ b c e, x = .blk b (.cells c e (0, 0))) := by
  have h1 := h.ok _ (List.mem_cons_self ..)
  obtain ⟨hl, h2⟩ := h1
  rcases h2 with ⟨rfl, rfl⟩ | ⟨gb, cap, cur, rfl, hb, hg, hn, hm, hs, ht⟩
  · have : xs = [] := List.eq_nil_of_length_eq_zero (by simpa using hl)
    subst this
    exact ⟨[], h.tail, SlV.nil _ _, fun x hx => by simp at hx⟩
  · refine ⟨[.blk gb (.cells cur e (0, 0))], ⟨h.below, fun x hx => ?_, ?_⟩, ⟨⟨_, cap, rfl, hn, fun _ => rfl⟩, hl, fun j c hj => ⟨cur, e, (0, 0), .inr (by simp [sb]), ?_⟩, Nat.le_trans hn hm⟩, fun x hx => ?_⟩
    · rcases List.mem_cons.1 hx with rfl | hx
      · exact ⟨hb, hg⟩
      · exact h.ok x (List.mem_cons_of_mem _ hx)
    · exact List.Pairwise.cons (fun y hy => (List.pairwise_cons.1 h.dis).1 y hy) (List.pairwise_cons.1 h.dis).2
    · simp only [so, Nat.zero_add]
      rw [← ht, List.getElem?_take] at hj
      split at hj
      · simpa using hj
      · cases hj
    · simp at hx; exact ⟨_, _, _, hx⟩
theorem slv_blk {b : Nat} {c : List Value} {e : TypeId} (hZ : Ent.blk b (.cells c.toArray e (0, 0)) ∈ Z) (hl : c.length = n * sz) (hn : n ≤ maxLen) : SlV (Kz K Z) (.slice (some ⟨b, 0, none⟩) n n) sz n c :=
  ⟨⟨_, n, rfl, Nat.le_refl _, fun _ => rfl⟩, hl, fun j u hu => ⟨c.toArray, e, (0, 0), .inr hZ, by simp only [so, Nat.zero_add]; simpa using hu⟩, hn⟩
end
def PureF (K : Vu) (p : Vu → Value → Prop) (w : World) : Ending → World → Prop := Ret fun u w' => ∃ Z : List Ent, Hp w w' Z ∧ p (Kz K Z) u
section calls
variable {P : Program} {n : Nat} {ops : Array Oper} {k : K} {rest : List Oper} {σ : Env} {w0 w : World} {L : List Ent} {op : Op} {ty : TypeId} {pos : String} {aft : Array Edge} {d : Nat} {Kv : Vu} {p : Vu → Value → Prop}
theorem RL.callF {f : FuncId} {args : Array Value} (hd : Nat.blt d n = true) (hH : Hp w0 w L) (hc : Calls P f args w (PureF Kv p w))
    (hr : (execOp (ev σ) ⟨some d, op, ty, pos, aft, none⟩).run P w = .ok (.enter f args) w)
    (hk : ∀ v w' Z, Hp w0 w' (Z ++ L) → p (Kz Kv Z) v → RL P n ops k rest (upd σ d v) w') : RL P n ops k (⟨some d, op, ty, pos, aft, none⟩ :: rest) σ w :=
  RL.call hd hr hc fun u w' ⟨Z, hz, hp⟩ => hk u w' Z (hH.callZ hz) hp
variable {l : List Oper} {i fuel : Nat} {listed : Array Bool} {g : Option (Nat × Bool)} {L' : List Ent}
theorem AO.callF {f : FuncId} {args : Array Value} (hi : l[i]? = some ⟨some d, op, ty, pos, aft, g⟩) (hg : ∀ a, Is n σ a → Region.wanted ⟨some d, op, ty, pos, aft, g⟩ (yielded l.toArray a.tmps) = true) (hd : Nat.blt d n = true)
    (hH : Hp w0 w L') (hs : L.Sublist L') (hc : Calls P f args w (PureF Kv p w)) (hr : (execOp (ev σ) ⟨some d, op, ty, pos, aft, g⟩).run P w = .ok (.enter f args) w)
    (h : ∀ v w' Z, Hp w0 w' (Z ++ L') → p (Kz Kv Z) v → AN P n l (fun w => Hp w0 w L) k fuel (listed.setIfInBounds i true) (upd σ d v) w') : AO P n l (fun w => Hp w0 w L) k fuel listed σ w i :=
  AO.call hi hg hd hc hr fun u w' ⟨Z, hz, hp⟩ => ⟨(hH.callZ hz).sub (List.Sublist.trans hs (List.sublist_append_right _ _)), h u w' Z (hH.callZ hz) hp⟩
end calls
/-! ### Rows whose elements take several cells -/
section flat
variable {α : Type} {cl : α → List Value} {sz : Nat}
theorem flat_get (hsz : ∀ a, (cl a).length = sz) : ∀ (l : List α) (k : Nat) (a : α), l[k]? = some a → ∀ j c, (cl a)[j]? = some c → (l.flatMap cl)[k * sz + j]? = some c
  | [], k, a, h => by simp at h
  | p :: l, 0, a, h => fun j c hj => by
    simp at h; subst h
    rw [List.flatMap_cons, List.getElem?_append_left (by have := (List.getElem?_eq_some_iff.1 hj).1; omega), Nat.zero_mul, Nat.zero_add]; exact hj
  | p :: l, k + 1, a, h => fun j c hj => by
    have := flat_get hsz l k a (by simpa using h) j c hj
    rw [List.flatMap_cons, List.getElem?_append_right (by rw [hsz, Nat.add_mul]; omega), hsz, show (k + 1) * sz + j - sz = k * sz + j by rw [Nat.add_mul]; omega]; exact this
theorem flat_length (hsz : ∀ a, (cl a).length = sz) (l : List α) : (l.flatMap cl).length = l.length * sz := by
  induction l with
  | nil => simp
  | cons a l ih => rw [List.flatMap_cons, List.length_append, hsz, ih, List.length_cons, Nat.add_mul]; omega
variable {P : Program} {σ : Env} {w : World} {dst : Option Tmp} {ty t : TypeId} {pos : String} {aft : Array Edge} {g : Option (Nat × Bool)} {x : Operand} {v : Value} {l : List α} {k : Int}
theorem run_ldE {d : TypeDesc} {dv : α} (hsz : ∀ a, (cl a).length = sz) (hS : Sl w v sz l.length (l.flatMap cl)) (hu : P.underlying t = some d) (hd : d.isRow = true) (hi : (P.info? t).map (·.size) = some sz)
    (hx : ev σ x = .pointer (some ⟨sb v, so v + k.toNat * sz, none⟩)) (hk : 0 ≤ k ∧ k < l.length) :
    (execOp (ev σ) ⟨dst, .load t x, ty, pos, aft, g⟩).run P w = .ok (.value (.agg (cl (l.getD k.toNat dv)).toArray)) w := by
  refine run_ldA hu hd (by rw [hsz]; exact hi) hx fun j c hj => ?_
  have := hS.cell _ _ (flat_get hsz l k.toNat _ (getD_at hk.1 hk.2) j c hj)
  rw [Nat.add_assoc]; exact this
theorem run_ldE1 {d : TypeDesc} {dv : α} {off : Nat} {c : Value} (hsz : ∀ a, (cl a).length = sz) (hS : Sl w v sz l.length (l.flatMap cl)) (hu : P.underlying t = some d) (hd : d.isRow = false)
    (hx : ev σ x = .pointer (some ⟨sb v, so v + k.toNat * sz + off, none⟩)) (hk : 0 ≤ k ∧ k < l.length) (hc : (cl (l.getD k.toNat dv))[off]? = some c) :
    (execOp (ev σ) ⟨dst, .load t x, ty, pos, aft, g⟩).run P w = .ok (.value c) w := by
  refine run_ld hu hd hx ?_
  have := hS.cell _ _ (flat_get hsz l k.toNat _ (getD_at hk.1 hk.2) off c hc)
  rw [Nat.add_assoc]; exact this
theorem run_ldEA {d : TypeDesc} {dv : α} {off : Nat} {cs : List Value} (hsz : ∀ a, (cl a).length = sz) (hS : Sl w v sz l.length (l.flatMap cl)) (hu : P.underlying t = some d) (hd : d.isRow = true) (hi : (P.info? t).map (·.size) = some cs.length)
    (hx : ev σ x = .pointer (some ⟨sb v, so v + k.toNat * sz + off, none⟩)) (hk : 0 ≤ k ∧ k < l.length) (hc : ∀ j c, cs[j]? = some c → (cl (l.getD k.toNat dv))[off + j]? = some c) :
    (execOp (ev σ) ⟨dst, .load t x, ty, pos, aft, g⟩).run P w = .ok (.value (.agg cs.toArray)) w := by
  refine run_ldA hu hd hi hx fun j c hj => ?_
  have := hS.cell _ _ (flat_get hsz l k.toNat _ (getD_at hk.1 hk.2) (off + j) c (hc j c hj))
  rw [Nat.add_assoc, Nat.add_assoc]; exact this
end flat
end Go.Proofs.YtdfbimlpondblaaDoor.E
