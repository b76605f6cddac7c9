/-
  Own rows that may have been cut with their capacity: their block may be longer than the slice reaches.
-/
import Derived.Test.YtphknfjaellkjaaGap
import Derived.Test.YtphknfjaellkjaaFsx
import Derived.Scope
namespace Go.Proofs.Ytphknfjaellkjaa.E
open Go Go.RowKit Go.Proofs.Ytphknfjaellkjaa.M
set_option linter.unusedVariables false
set_option linter.unusedSimpArgs false
def cEnt (c : Option (Nat × Array Value)) (v : Value) (e : TypeId) (sz n : Nat) (xs : List Value) : Ent :=
  match c with
  | none => .row v e sz n xs
  | some (b, cur) => .blk b (.cells cur e (0, 0))
def cOk (c : Option (Nat × Array Value)) (v : Value) (sz n : Nat) (xs : List Value) : Prop :=
  match c with
  | none => True
  | some (b, cur) => v = .slice (some ⟨b, 0, none⟩) n n ∧ xs.length = n * sz ∧ cur.toList.take (n * sz) = xs ∧ n ≤ maxLen
section
variable {w0 w : World} {L : List Ent} {c : Option (Nat × Array Value)} {v : Value} {e : TypeId} {sz n m i : Nat} {xs : List Value}
theorem Hp.slC (h : Hp w0 w L) (hi : L[i]? = some (cEnt c v e sz n xs)) (hk : cOk c v sz n xs) : Sl w v sz n xs := by
  cases c with
  | none => exact h.sl hi
  | some bc =>
    obtain ⟨b, cur⟩ := bc
    obtain ⟨rfl, h2, h3, h4⟩ := hk
    refine ⟨⟨_, n, rfl, Nat.le_refl _, fun _ => rfl⟩, h2, fun j u hu => ?_, h4⟩
    simp only [sb, so, Nat.zero_add]
    rw [cell_of_row w _ _ cur e (0, 0) (h.blk hi)]
    rw [← h3, List.getElem?_take] at hu
    split at hu
    · simpa using hu
    · cases hu
variable {P : Program} {σ : Env} {ty t : TypeId} {pos : String} {aft : Array Edge} {dst : Option Tmp} {g : Option (Nat × Bool)} {x y : Operand} {u : Value} {o : Nat}
theorem run_stC (h : Hp w0 w L) (hi : L[i]? = some (cEnt c v e sz n xs)) (hk : cOk c v sz n xs) (hn : 0 < n) (hx : ev σ x = .pointer (some ⟨sb v, so v + o, none⟩)) (hy : ev σ y = u) (hv : u.cells = #[u]) (h1 : u.oneCell' = true) (hs : (P.info? t).map (·.size) = some 1) (ho : o + 1 ≤ n * sz) :
    ∃ c' w', (execOp (ev σ) ⟨dst, .store t x y, ty, pos, aft, g⟩).run P w = .ok .skip w' ∧ cOk c' v sz n (putL xs o [u]) ∧ Hp w0 w' (L.set i (cEnt c' v e sz n (putL xs o [u]))) := by
  cases c with
  | none =>
    obtain ⟨w', hr, h2⟩ := row_st1 (dst := dst) (ty := ty) (pos := pos) (aft := aft) (g := g) h hi hn hx hy hv h1 hs ho
    exact ⟨none, w', hr, trivial, h2⟩
  | some bc =>
    obtain ⟨b, cur⟩ := bc
    obtain ⟨rfl, h2, h3, h4⟩ := hk
    have hl : n * sz ≤ cur.size := by
      have := congrArg List.length h3
      rw [List.length_take, h2, Array.length_toList] at this; omega
    have hx' : ev σ x = .pointer (some ⟨b, o, none⟩) := by rw [hx]; simp only [sb, so, Nat.zero_add]
    have hr := run_st (P := P) (dst := dst) (ty := ty) (pos := pos) (aft := aft) (g := g) hs hx' hy hv h1 (h.blk hi) (by omega)
    have e1 : (cur.setIfInBounds o u).toList = cur.toList.take o ++ [u] ++ cur.toList.drop (o + 1) := by
      simp [List.set_eq_take_append_cons_drop, show o < cur.size by omega]
    refine ⟨some (b, cur.setIfInBounds o u), _, hr, ⟨rfl, ?_, ?_, h4⟩, h.set hi⟩
    · rw [putL]; simp only [List.length_append, List.length_take, List.length_drop, List.length_singleton, h2]; omega
    · rw [e1, show cur.toList.take o ++ [u] ++ cur.toList.drop (o + 1) = cur.toList.take o ++ [u] ++ cur.toList.drop (o + [u].length) from rfl, take_put (by simpa using ho) (by rw [Array.length_toList]; omega), h3]
theorem run_appC {ie : TypeInfo} {z : Value} {size bytes : Nat} {m' : Nat} {news : List Value} {ats : TypeId} (h : Hp w0 w L) (hi : L[i]? = some (cEnt c v e size n xs)) (hk : cOk c v size n xs) (hS : Sl w u size m' news)
    (hx : ev σ x = v) (hy : ev σ y = u) (ht : P.underlying t = some (.slice e)) (hie : P.info? e = some ie) (hz : ie.zero = some z)
    (hsize : ie.size = size) (hby : ie.bytes = bytes) (hzs : z.cells.size = size) (hsz : 0 < size) (h1 : ∀ u ∈ news, u.oneCell' = true) (hm : 0 < m')
    (hbytes : (n + m') * bytes ≤ 140737488355328) (h63 : n + m' ≤ maxLen) :
    ∃ v' w', (execOp (ev σ) ⟨dst, .call { callee := .builtin .append, args := #[x, y], argTypes := #[t, t] }, ty, pos, aft, g⟩).run P w = .ok (.value v') w' ∧ Hp w0 w' (L.set i (.row v' e size (n + m') (xs ++ news))) := by
  cases c with
  | none =>
    obtain ⟨v', w', hr, h2, h3, h4⟩ := run_appendE (P := P) (ty := ty) ht hie hz hsize hby hzs hsz (h.get hi) hS h1 h63 hbytes h.size
    exact ⟨v', w', run_app hx hy hr, h.appended hi h2 h3 h4⟩
  | some bc =>
    have hX := h.slC hi hk
    have hsh : ∃ a, v = .slice a n n := by
      obtain ⟨b, cur⟩ := bc
      exact ⟨_, hk.1⟩
    obtain ⟨v', w', hr, h2, h3⟩ := run_appG (P := P) (base := 0) (ty := ty) ht hie hz hsize hby hzs hsh hX hS hm h63 hbytes
    exact ⟨v', w', run_app hx hy hr, (h.callRow h3 h2).swap (List.getElem?_eq_some_iff.1 hi).1⟩
end
section
variable {P : Program} {σ : Env} {w : World} {t te ty u : TypeId} {pos : String} {aft : Array Edge} {dst : Option Tmp} {g : Option (Nat × Bool)} {x y : Operand} {a : Addr}
theorem run_ptrEq0 (d : Nat) (ht : P.underlying t = some (.pointer te)) : (Op.equalIn (d + 1) t (.pointer (some a)) (.pointer none)).run P w = .ok false w := by
  simp [Op.equalIn, run_underlying ht]
theorem run_eqlP0 (ht : P.underlying t = some (.pointer te)) (hx : ev σ x = .pointer (some a)) (hy : ev σ y = .pointer none) :
    (execOp (ev σ) ⟨dst, .binOp .eql t x y u, ty, pos, aft, g⟩).run P w = .ok (.value (.bool false)) w := by
  have h : (binOp .eql t (.pointer (some a)) (.pointer none)).run P w = .ok (.bool false) w := by
    simp only [binOp]; simp [Op.equal, Op.maxDepth, run_ptrEq0 9999 ht]
  have he : (eqGuard .eql t x y (.pointer (some a)) (.pointer none)) = pure () := rfl
  simp only [execOp, hx, hy, he]; simp [h]
end
theorem Sl.atU {w : World} {v : Value} {W : List (BitVec 64)} (h : Sl w v 1 W.length (W.map U)) {i : Int} (h0 : 0 ≤ i) (h1 : i < W.length) : w.cell? ⟨sb v, so v + i.toNat * 1, none⟩ = some (U (W.getD i.toNat 0)) := by
  refine h.cell _ _ ?_
  rw [Nat.mul_one, List.getElem?_map, List.getElem?_eq_getElem (by omega), List.getD_eq_getElem?_getD, List.getElem?_eq_getElem (by omega)]; rfl
/-! ### Lists of single cells -/
def cE (c : Option (Nat × Array Value)) (v : Value) (e : TypeId) (xs : List Value) : Ent := cEnt c v e 1 xs.length xs
def cO (c : Option (Nat × Array Value)) (v : Value) (xs : List Value) : Prop := cOk c v 1 xs.length xs
section
variable {P : Program} {n : Nat} {k : K} {l : List Oper} {σ : Env} {w0 w : World} {L L' : List Ent} {ty t e : TypeId} {pos : String} {aft : Array Edge} {d : Nat} {x y : Operand} {g : Option (Nat × Bool)} {v u : Value} {c : Option (Nat × Array Value)} {xs : List Value} {i m fuel j : Nat} {listed : Array Bool} {W : List (BitVec 64)} {y0 : Value}
theorem Hp.slE (h : Hp w0 w L) (hi : L[i]? = some (cE c v e xs)) (hk : cO c v xs) : Sl w v 1 xs.length xs := h.slC hi hk
theorem set_mapU {o : Nat} {b : BitVec 64} : (W.map U).set o (U b) = (W.set o b).map U := List.map_set.symm
theorem Hp.memB {b : Nat} {o : Obj} (h : Hp w0 w L) (hm : Ent.blk b o ∈ L) : w.heap[b]? = some o := (h.ok _ hm).2
theorem Hp.slU (h : Hp w0 w L) (hi : L[i]? = some (cE c v e (W.map U))) (hk : cO c v (W.map U)) : Sl w v 1 W.length (W.map U) := by
  have := h.slE hi hk
  rwa [List.length_map] at this
theorem putL_set {o : Nat} (ho : o < xs.length) : putL xs o [u] = xs.set o u := by
  rw [putL, List.set_eq_take_append_cons_drop, if_pos ho]; simp
theorem AO.stE (hj : l[j]? = some ⟨none, .store t x y, ty, pos, aft, g⟩) (hg : ∀ a, Is n σ a → Region.wanted ⟨none, .store t x y, ty, pos, aft, g⟩ (yielded l.toArray a.tmps) = true) (hH : Hp w0 w L) (hi : L[i]? = some (cE c v e xs)) (hk : cO c v xs) (hsub : ∀ c' ys, L'.Sublist (L.set i (cE c' v e ys))) {o : Nat} (ho : o < xs.length)
    (hx : ev σ x = .pointer (some ⟨sb v, so v + o * 1, none⟩)) (hy : ev σ y = u) (hv : u.cells = #[u]) (h1 : u.oneCell' = true) (hs : (P.info? t).map (·.size) = some 1)
    (hn : ∀ c' w', cO c' v (xs.set o u) → Hp w0 w' (L.set i (cE c' v e (xs.set o u))) → AN P n l (fun w => Hp w0 w L') k fuel (listed.setIfInBounds j true) σ w') : AO P n l (fun w => Hp w0 w L') k fuel listed σ w j := by
  obtain ⟨c', w', hr, h2, h3⟩ := run_stC (dst := none) (ty := ty) (pos := pos) (aft := aft) (g := g) hH hi hk (by omega) (o := o) (by rw [hx, Nat.mul_one]) hy hv h1 hs (by omega)
  rw [putL_set ho] at h2 h3
  have e1 : (xs.set o u).length = xs.length := List.length_set
  refine AO.eff hj hg hr ((show Hp w0 w' (L.set i (cE c' v e (xs.set o u))) by unfold cE; rw [e1]; exact h3).sub (hsub _ _)) (hn c' w' (by unfold cO; rw [e1]; exact h2) (by unfold cE; rw [e1]; exact h3))
theorem AO.appE {ie : TypeInfo} {z : Value} {bytes : Nat} (hi : l[j]? = some ⟨some d, .call { callee := .builtin .append, args := #[x, y], argTypes := #[t, t] }, ty, pos, aft, g⟩)
    (hg : ∀ a, Is n σ a → Region.wanted ⟨some d, .call { callee := .builtin .append, args := #[x, y], argTypes := #[t, t] }, ty, pos, aft, g⟩ (yielded l.toArray a.tmps) = true) (hd : Nat.blt d n = true) (hH : Hp w0 w L) (hL : L[i]? = some (cE c v e xs)) (hk : cO c v xs)
    (hs : ∀ v' ys, L'.Sublist (L.set i (cE none v' e ys))) (hS : Sl w u 1 1 [y0])
    (hx : ev σ x = v) (hy : ev σ y = u) (ht : P.underlying t = some (.slice e)) (hie : P.info? e = some ie) (hz : ie.zero = some z)
    (hsize : ie.size = 1) (hby : ie.bytes = bytes) (hzs : z.cells.size = 1) (h1 : y0.oneCell' = true)
    (hbytes : (xs.length + 1) * bytes ≤ 140737488355328) (h63 : xs.length + 1 ≤ maxLen)
    (hn : ∀ v' w', Hp w0 w' (L.set i (cE none v' e (xs ++ [y0]))) → AN P n l (fun w => Hp w0 w L') k fuel (listed.setIfInBounds j true) (upd σ d v') w') : AO P n l (fun w => Hp w0 w L') k fuel listed σ w j := by
  obtain ⟨v', w', hr, h2⟩ := run_appC (P := P) (ty := ty) (dst := some d) (pos := pos) (aft := aft) (g := g) (ats := t) hH hL hk hS hx hy ht hie hz hsize hby hzs (by omega) (fun u hu => by rw [List.mem_singleton.1 hu]; exact h1) (by omega) hbytes h63
  have h3 : Hp w0 w' (L.set i (cE none v' e (xs ++ [y0]))) := by unfold cE; rw [List.length_append, List.length_singleton]; exact h2
  exact AO.val hi hg hd hr (h3.sub (hs _ _)) (hn v' w' h3)
end
theorem map_snocU {W : List (BitVec 64)} {b : BitVec 64} : W.map U ++ [U b] = (W ++ [b]).map U := by simp
theorem map_snocF {ul : List (Value × Und)} {x : Value} (u : Und) : ul.map Prod.fst ++ [x] = (ul ++ [(x, u)]).map Prod.fst := by simp
/-! ### Closures that undo -/
structure UT where
  fA : FuncId
  fS : FuncId
  tc : TypeId
  ti : TypeId
  tu : TypeId
def UndIn (T : UT) (F : Nat) (L : List Ent) (x : Value × Und) : Prop :=
  match x.2 with
  | .add n => ∃ b1 b2, x.1 = .func (.func T.fA) #[] #[.pointer (some ⟨b1, 0, none⟩), .pointer (some ⟨b2, 0, none⟩)] ∧ Ent.blk b1 (.cells #[.pointer (some ⟨F, 0, none⟩)] T.tc (0, 0)) ∈ L ∧ Ent.blk b2 (.cells #[I n] T.ti (0, 0)) ∈ L
  | .set i b => ∃ b1 b2 b3, x.1 = .func (.func T.fS) #[] #[.pointer (some ⟨b1, 0, none⟩), .pointer (some ⟨b2, 0, none⟩), .pointer (some ⟨b3, 0, none⟩)] ∧ Ent.blk b1 (.cells #[U b] T.tu (0, 0)) ∈ L ∧ Ent.blk b2 (.cells #[.pointer (some ⟨F, 0, none⟩)] T.tc (0, 0)) ∈ L ∧ Ent.blk b3 (.cells #[I i] T.ti (0, 0)) ∈ L
theorem UndIn.mono {T : UT} {F : Nat} {L L' : List Ent} {x : Value × Und} (h : UndIn T F L x) (hs : ∀ e ∈ L, e ∈ L') : UndIn T F L' x := by
  obtain ⟨v, u⟩ := x
  cases u with
  | add n => obtain ⟨b1, b2, h1, h2, h3⟩ := h; exact ⟨b1, b2, h1, hs _ h2, hs _ h3⟩
  | set i b => obtain ⟨b1, b2, b3, h1, h2, h3, h4⟩ := h; exact ⟨b1, b2, b3, h1, hs _ h2, hs _ h3, hs _ h4⟩
section
variable {P : Program} {n : Nat} {k : K} {xs : List (Nat × K)} {r : K} {σ : Env} {w : World}
theorem CW.scope {c : Code} (h : CW P n c k xs r σ w) : CW P n (.scope c) k xs r σ w := fun a ha => wp_scope_straight (Code.wp_mono (fun e a' w' hq => by cases e <;> exact hq) (h a ha))
theorem CW.label {l : Nat} (h : k σ w) : CW P n (.label l) k xs r σ w := fun a ha => wp_label ⟨σ, ha, h⟩
end
theorem Hp.mids {w0 w : World} {A R B L : List Ent} (h : Hp w0 w (A ++ (B ++ (R ++ L)))) : Hp w0 w (A ++ (R ++ (B ++ L))) := by
  refine h.perm (List.Perm.append_left A ?_)
  rw [← List.append_assoc, ← List.append_assoc]
  exact List.Perm.append_right L List.perm_append_comm
/-! ### A node more -/
def litN (n : Nat) (k : Int) : Int := if k = 1 then 1 else n
theorem lit_at {n : Nat} {k : Int} (h0 : 0 ≤ k) (h1 : k < 4) : ([I n, I 1, I n, I n] : List Value)[k.toNat * 1]? = some (I (litN n k)) := by
  rcases (by omega : k = 0 ∨ k = 1 ∨ k = 2 ∨ k = 3) with rfl | rfl | rfl | rfl <;> rfl
theorem nw_next {n : Nat} {k : Int} (h0 : 0 ≤ k) (h1 : k < 4) : (ndW (newN n)).take (k + 1).toNat = (ndW (newN n)).take k.toNat ++ [BitVec.ofInt 64 (litN n k)] := by
  rcases (by omega : k = 0 ∨ k = 1 ∨ k = 2 ∨ k = 3) with rfl | rfl | rfl | rfl <;> simp [ndW, newN, litN]
def addT (m : Nat) (k : Int) : List Und := (List.range k.toNat).map fun j => Und.add (m + j)
theorem addT_next {m : Nat} {k : Int} (h0 : 0 ≤ k) : addT m (k + 1) = addT m k ++ [Und.add (m + k.toNat)] := by
  rw [addT, show (k + 1).toNat = k.toNat + 1 by omega, List.range_succ, List.map_append]; rfl
theorem addT_4 {m : Nat} {us : List Und} : us ++ addT m 4 = addU us m := by simp [addT, addU, List.range, List.range.loop]
theorem drop_app {a b c : List (Value × Und)} {T : UT} {F : Nat} {B C : List Ent} (h1 : b.take a.length = a) (h2 : c.take b.length = b) (hab : ∀ x ∈ b.drop a.length, UndIn T F B x) (hbc : ∀ x ∈ c.drop b.length, UndIn T F C x) : c.take a.length = a ∧ ∀ x ∈ c.drop a.length, UndIn T F (C ++ B) x := by
  have hl : a.length ≤ b.length := by
    have := congrArg List.length h1; rw [List.length_take] at this; omega
  constructor
  · rw [show c.take a.length = (c.take b.length).take a.length by rw [List.take_take, Nat.min_eq_left hl], h2, h1]
  · intro x hx
    have e : c = b ++ c.drop b.length := by conv => lhs; rw [← List.take_append_drop b.length c, h2]
    rw [e, List.drop_append_of_le_length hl] at hx
    rcases List.mem_append.1 hx with q | q
    · exact (hab x q).mono fun e he => List.mem_append_right _ he
    · exact (hbc x q).mono fun e he => List.mem_append_left _ he
end Go.Proofs.Ytphknfjaellkjaa.E
