/-
  A slice cut with its capacity, and append onto it: it always makes a block of its own.
-/
import Derived.Test.YtdfbimlpondblaaDoorAst
import Derived.Test.YtdfbimlpondblaaDoorMk
namespace Go.Proofs.YtdfbimlpondblaaDoor.E
open Go Go.RowKit Go.Proofs.YtdfbimlpondblaaDoor.M
set_option linter.unusedVariables false
set_option linter.unusedSimpArgs false
def cut3 : Value → Nat → Value
  | .slice a _ _, n => .slice a n n
  | v, _ => v
theorem Sl.cut3 {w : World} {v : Value} {sz m n : Nat} {cells : List Value} (h : Sl w v sz m cells) (hn : n ≤ m) : Sl w (cut3 v n) sz n (cells.take (n * sz)) := by
  obtain ⟨a, cap, rfl, hc, ha⟩ := h.shape
  refine ⟨⟨a, n, rfl, Nat.le_refl _, fun hp => ?_⟩, ?_, fun j c hj => ?_, Nat.le_trans hn h.small⟩
  · have := ha (by omega)
    cases a with
    | none => cases this
    | some a => exact this
  · rw [List.length_take, h.len]; exact Nat.min_eq_left (Nat.mul_le_mul_right _ hn)
  · have hlt : j < n * sz := by
      have := (List.getElem?_eq_some_iff.1 hj).1
      rw [List.length_take] at this; omega
    rw [List.getElem?_take, if_pos hlt] at hj
    have := h.cell j c hj
    cases a <;> exact this
theorem cut3_shape {w : World} {v : Value} {sz m n : Nat} {cells : List Value} (h : Sl w v sz m cells) : ∃ a, E.cut3 v n = .slice a n n := by
  obtain ⟨a, cap, rfl, _, _⟩ := h.shape
  exact ⟨a, rfl⟩
theorem set_perm {α : Type} {x : α} : ∀ {l : List α} {i : Nat}, i < l.length → (l.set i x).Perm (x :: l.eraseIdx i)
  | a :: l, 0, _ => List.Perm.refl _
  | a :: l, i + 1, h => (List.Perm.cons a (set_perm (l := l) (i := i) (by simpa using h))).trans (List.Perm.swap _ _ _)
  | [], _, h => absurd h (by simp)
theorem Hp.swap {w0 w : World} {L : List Ent} {x : Ent} {i : Nat} (h : Hp w0 w (x :: L)) (hi : i < L.length) : Hp w0 w (L.set i x) :=
  (h.sub (List.Sublist.cons_cons _ (List.eraseIdx_sublist _ _))).perm (set_perm hi).symm
section
variable {P : Program} {n : Nat} {ops : Array Oper} {k : K} {rest : List Oper} {σ : Env} {w0 w : World} {L L' L'' : List Ent} {ty : TypeId} {pos : String} {aft : Array Edge} {d : Nat} {x y : Operand} {dst : Option Tmp} {g : Option (Nat × Bool)}
theorem run_cut3 {t e : TypeId} {lo hi : Operand} {v : Value} {sz m : Nat} {q : Int} {cells : List Value} (hS : Sl w v sz m cells) (hu : P.underlying t = some (.slice e)) (hs : ∀ w, (sizeOf e).run P w = .ok sz w) (hx : ev σ x = v) (hlo : ev σ lo = I q) (hhi : ev σ hi = I q) (h : 0 ≤ q ∧ q ≤ m) :
    (execOp (ev σ) ⟨dst, .slice t x none (some lo) (some hi), ty, pos, aft, g⟩).run P w = .ok (.value (cut3 v q.toNat)) w := by
  obtain ⟨a, cap, rfl, hcap, ha⟩ := hS.shape
  have h1 : 0 ≤ q ∧ q ≤ (cap : Int) := by omega
  have h2 : 0 ≤ q ∧ q ≤ ((q.toNat : Nat) : Int) := by omega
  have h3 : (Instr.slice t (.slice a m cap) none (some (I q)) (some (I q))).run P w = .ok (.slice a q.toNat q.toNat) w := by
    have e0 : Option.map (fun x : Addr => x.add 0) a = a := by cases a <;> simp [Addr.add]
    have h5 : q ≤ max q 0 := by omega
    simp [Instr.slice, Instr.sliceBounds, Instr.sliceBound, run_underlying hu, asIntOf, h1, h2, hs, e0, h5]
  have h4 : (Instr.sliceAt t (.slice a m cap) none (some (I q)) (some (I q))).run P w = .ok (.slice a q.toNat q.toNat) w := by
    simp [Instr.sliceAt, run_underlying hu, h3]
  simp [execOp, hx, hlo, hhi, h4, cut3]
theorem run_appG {base : Nat} {t ty e : TypeId} {i : TypeInfo} {z : Value} {size bytes : Nat} (ht : P.underlying t = some (.slice e)) (hi : P.info? e = some i) (hz : i.zero = some z)
    (hsize : i.size = size) (hby : i.bytes = bytes) (hzs : z.cells.size = size) {v : Value} {n : Nat} {xs : List Value} (hv : ∃ a, v = .slice a n n) (hX : Sl w v size n xs) {y : Value} {m : Nat} {news : List Value} (hS : Sl w y size m news)
    (hm : 0 < m) (h63 : n + m ≤ maxLen) (hbytes : (n + m) * bytes ≤ 140737488355328) :
    ∃ v' w', (Builtin.append_ #[t, t] ty #[v, y]).run P w = .ok v' w' ∧ w'.ownsRow w.heap.size e size v' (n + m) (xs ++ news) ∧ Below w.heap.size w w' := by
  subst hsize
  subst hby
  obtain ⟨a, rfl⟩ := hv
  obtain ⟨b, c, hy, hmc, hb⟩ := hS.shape
  have hb' := hb hm
  have hyy : y = .slice (some ⟨sb y, so y, none⟩) m c := by rw [← hb']; exact hy
  have hnews : ∀ j u, news[j]? = some u → w.cell? ((⟨sb y, so y, none⟩ : Addr).add j) = some u := fun j u hu => by rw [Addr.add_mid]; exact hS.cell j u hu
  have hlen : (xs ++ news).length = (n + m) * i.size := by rw [List.length_append, hX.len, hS.len, Nat.add_mul]
  have hsmall : n + m ≤ 9223372036854775807 := by simp only [maxLen] at h63; omega
  have grown : ∀ (old : Nat), old < n + m →
      (w.drew.alloc (.cells (xs.toArray ++ news.toArray ++ Builtin.zeroCells z.cells (grownCap w (n + m) old e - (n + m))) e)).ownsRow w.heap.size e i.size
        (.slice (some ⟨w.heap.size, 0, none⟩) (n + m) (grownCap w (n + m) old e)) (n + m) (xs ++ news) ∧
      Below w.heap.size w (w.drew.alloc (.cells (xs.toArray ++ news.toArray ++ Builtin.zeroCells z.cells (grownCap w (n + m) old e - (n + m))) e)) := by
    intro old ho
    have hge := grownCap_ge w (n + m) old e
    have hcm : grownCap w (n + m) old e ≤ maxLen := grownCap_le_maxLen w (n + m) old e h63
    refine ⟨⟨hlen, .inr ⟨w.heap.size, _, _, rfl, Nat.le_refl _, heap_alloc_new w.drew _, hge, hcm, ?_, ?_⟩⟩, ⟨rfl, rfl, rfl, by simp, fun k hk => heap_alloc_old w.drew _ hk⟩⟩
    · simp only [Array.size_append, List.size_toArray, size_zeroCells, hzs, hX.len, hS.len, ← Nat.add_mul]
      congr 1
      omega
    · simp only [Array.toList_append, List.append_assoc]
      rw [← List.append_assoc, ← hlen]
      exact List.take_left
  rw [hyy]
  cases a with
  | none =>
    have hn : n = 0 := by
      rcases Nat.eq_zero_or_pos n with h | h
      · exact h
      · obtain ⟨a', c', e1, _, h2⟩ := hX.shape
        injection e1 with e1
        rw [← e1] at h2; cases h2 h
    subst hn
    have hx : xs = [] := List.eq_nil_of_length_eq_zero (by simpa using hX.len)
    subst hx
    have hr := run_append_nil (P := P) w t ty e i z ht hi hz ⟨sb y, so y, none⟩ m c news hS.len hnews (by omega) (by omega) (by have hb := hbytes; simp only [Nat.zero_add] at hb; omega)
    have hgr := grown 0 (by omega)
    simp only [Nat.zero_add, List.nil_append, Array.empty_append] at hgr ⊢
    exact ⟨_, _, hr, hgr.1, hgr.2⟩
  | some a =>
    have holds : ∀ j u, xs[j]? = some u → w.cell? (a.add j) = some u := fun j u hu => by
      have hj : j < n * i.size := by have := (List.getElem?_eq_some_iff.1 hu).1; rw [hX.len] at this; exact this
      have hn : 0 < n := by
        rcases Nat.eq_zero_or_pos n with h | h
        · subst h; simp at hj
        · exact h
      obtain ⟨a', c', e1, _, h2⟩ := hX.shape
      injection e1 with e1
      have h3 := h2 hn
      rw [← e1] at h3
      have h4 : a = ⟨sb (.slice (some a) n n), so (.slice (some a) n n), none⟩ := by injection h3
      rw [h4, Addr.add_mid]; exact hX.cell j u hu
    have hr := run_append_grow (P := P) w t ty e i z ht hi hz a n n xs hX.len holds ⟨sb y, so y, none⟩ m c news hS.len hnews (by omega) (by omega) (growslice_fits (by omega) hbytes)
    have hgr := grown n (by omega)
    exact ⟨_, _, hr, hgr.1, hgr.2⟩
theorem RL.appG {t e : TypeId} {i : Nat} {ie : TypeInfo} {z : Value} {size bytes : Nat} {v u : Value} {m m' q : Nat} {xs news : List Value} (hd : Nat.blt d n = true) (hH : Hp w0 w L) (hL : L[i]? = some (.row v e size m xs)) (hq : q ≤ m) (hS : Sl w u size m' news)
    (hx : ev σ x = cut3 v q) (hy : ev σ y = u) (ht : P.underlying t = some (.slice e)) (hi : P.info? e = some ie) (hz : ie.zero = some z)
    (hsize : ie.size = size) (hby : ie.bytes = bytes) (hzs : z.cells.size = size) (hm : 0 < m')
    (hbytes : (q + m') * bytes ≤ 140737488355328) (h63 : q + m' ≤ maxLen)
    (hk : ∀ v' w', Hp w0 w' (L.set i (.row v' e size (q + m') (xs.take (q * size) ++ news))) → RL P n ops k rest (upd σ d v') w') :
    RL P n ops k (⟨some d, .call { callee := .builtin .append, args := #[x, y], argTypes := #[t, t] }, ty, pos, aft, none⟩ :: rest) σ w := by
  have hX := hH.sl hL
  obtain ⟨v', w', hr, h2, h3⟩ := run_appG (P := P) (base := 0) (ty := ty) ht hi hz hsize hby hzs (cut3_shape hX) (hX.cut3 hq) hS hm h63 hbytes
  exact RL.val hd (run_app hx hy hr) (hk v' w' ((hH.callRow h3 h2).swap (List.getElem?_eq_some_iff.1 hL).1))
variable {l : List Oper} {fuel i : Nat} {listed : Array Bool}
theorem AO.appG {t e : TypeId} {j : Nat} {ie : TypeInfo} {z : Value} {size bytes : Nat} {v u : Value} {m m' q : Nat} {xs news : List Value} (hi : l[i]? = some ⟨some d, .call { callee := .builtin .append, args := #[x, y], argTypes := #[t, t] }, ty, pos, aft, g⟩)
    (hg : ∀ a, Is n σ a → Region.wanted ⟨some d, .call { callee := .builtin .append, args := #[x, y], argTypes := #[t, t] }, ty, pos, aft, g⟩ (yielded l.toArray a.tmps) = true) (hd : Nat.blt d n = true) (hH : Hp w0 w L'') (hL : L''[j]? = some (.row v e size m xs)) (hq : q ≤ m)
    (hs : ∀ v', L'.Sublist (L''.set j (.row v' e size (q + m') (xs.take (q * size) ++ news)))) (hS : Sl w u size m' news)
    (hx : ev σ x = cut3 v q) (hy : ev σ y = u) (ht : P.underlying t = some (.slice e)) (hie : P.info? e = some ie) (hz : ie.zero = some z)
    (hsize : ie.size = size) (hby : ie.bytes = bytes) (hzs : z.cells.size = size) (hm : 0 < m')
    (hbytes : (q + m') * bytes ≤ 140737488355328) (h63 : q + m' ≤ maxLen)
    (hk : ∀ v' w', Hp w0 w' (L''.set j (.row v' e size (q + m') (xs.take (q * size) ++ news))) → AN P n l (fun w => Hp w0 w L') k fuel (listed.setIfInBounds i true) (upd σ d v') w') : AO P n l (fun w => Hp w0 w L') k fuel listed σ w i := by
  have hX := hH.sl hL
  obtain ⟨v', w', hr, h2, h3⟩ := run_appG (P := P) (base := 0) (ty := ty) ht hie hz hsize hby hzs (cut3_shape hX) (hX.cut3 hq) hS hm h63 hbytes
  have hH' := (hH.callRow h3 h2).swap (i := j) (List.getElem?_eq_some_iff.1 hL).1
  exact AO.val hi hg hd (run_app hx hy hr) (hH'.sub (hs v')) (hk v' w' hH')
end
section
variable {P : Program} {n : Nat} {ops : Array Oper} {k : K} {rest l : List Oper} {σ : Env} {w0 w : World} {L : List Ent} {op : Op} {ty t e et : TypeId} {pos : String} {aft : Array Edge} {d : Nat} {x y : Operand} {g : Option (Nat × Bool)} {v u : Value} {sz m i o : Nat} {xs : List Value} {dst : Option Tmp}
theorem row_st1 (hH : Hp w0 w L) (hi : L[i]? = some (.row v e sz m xs)) (hm : 0 < m) (hx : ev σ x = .pointer (some ⟨sb v, so v + o, none⟩)) (hy : ev σ y = u) (hv : u.cells = #[u]) (h1 : u.oneCell' = true) (hs : (P.info? t).map (·.size) = some 1) (ho : o + 1 ≤ m * sz) :
    ∃ w', (execOp (ev σ) ⟨dst, .store t x y, ty, pos, aft, g⟩).run P w = .ok .skip w' ∧ Hp w0 w' (L.set i (.row v e sz m (putL xs o [u]))) := by
  obtain ⟨gb, cap, rfl, hnc, cur, hg, hc, ht, hk⟩ := hH.rowTurn hi hm
  have hcm : m * sz ≤ cap * sz := Nat.mul_le_mul_right _ hnc
  have hx' : ev σ x = .pointer (some ⟨gb, o, none⟩) := by rw [hx]; simp only [sb, so, Nat.zero_add]
  have hr := run_st (P := P) (dst := dst) (ty := ty) (pos := pos) (aft := aft) (g := g) hs hx' hy hv h1 hg (by omega)
  have e1 : (cur.setIfInBounds o u).toList = cur.toList.take o ++ [u] ++ cur.toList.drop (o + 1) := by
    simp [List.set_eq_take_append_cons_drop, show o < cur.size by omega]
  have h2 := hk (cur.setIfInBounds o u) (by simp)
  rw [e1, show cur.toList.take o ++ [u] ++ cur.toList.drop (o + 1) = cur.toList.take o ++ [u] ++ cur.toList.drop (o + [u].length) from rfl, take_put (by simpa using ho) (by rw [Array.length_toList]; omega), ht] at h2
  exact ⟨_, hr, h2⟩
theorem RL.rowst1 (hH : Hp w0 w L) (hi : L[i]? = some (.row v e sz m xs)) (hm : 0 < m) (hx : ev σ x = .pointer (some ⟨sb v, so v + o, none⟩)) (hy : ev σ y = u) (hv : u.cells = #[u]) (h1 : u.oneCell' = true) (hs : (P.info? t).map (·.size) = some 1) (ho : o + 1 ≤ m * sz)
    (hk : ∀ w', Hp w0 w' (L.set i (.row v e sz m (putL xs o [u]))) → RL P n ops k rest σ w') : RL P n ops k (⟨none, .store t x y, ty, pos, aft, none⟩ :: rest) σ w := by
  obtain ⟨w', hr, h2⟩ := row_st1 (dst := none) (ty := ty) (pos := pos) (aft := aft) (g := none) hH hi hm hx hy hv h1 hs ho
  exact RL.eff hr (hk w' h2)
variable {fuel j : Nat} {listed : Array Bool} {L' : List Ent}
theorem AO.rowst1 (hj : l[j]? = some ⟨none, .store t x y, ty, pos, aft, g⟩) (hg : ∀ a, Is n σ a → Region.wanted ⟨none, .store t x y, ty, pos, aft, g⟩ (yielded l.toArray a.tmps) = true) (hH : Hp w0 w L) (hi : L[i]? = some (.row v e sz m xs)) (hsub : ∀ ys, L'.Sublist (L.set i (.row v e sz m ys))) (hm : 0 < m)
    (hx : ev σ x = .pointer (some ⟨sb v, so v + o, none⟩)) (hy : ev σ y = u) (hv : u.cells = #[u]) (h1 : u.oneCell' = true) (hs : (P.info? t).map (·.size) = some 1) (ho : o + 1 ≤ m * sz)
    (hk : ∀ w', Hp w0 w' (L.set i (.row v e sz m (putL xs o [u]))) → AN P n l (fun w => Hp w0 w L') k fuel (listed.setIfInBounds j true) σ w') : AO P n l (fun w => Hp w0 w L') k fuel listed σ w j := by
  obtain ⟨w', hr, h2⟩ := row_st1 (dst := none) (ty := ty) (pos := pos) (aft := aft) (g := g) hH hi hm hx hy hv h1 hs ho
  exact AO.eff hj hg hr (h2.sub (hsub _)) (hk w' h2)
end
section
variable {P : Program} {σ : Env} {w : World} {ty : TypeId} {pos : String} {aft : Array Edge} {dst : Option Tmp} {g : Option (Nat × Bool)} {x : Operand}
end
theorem Sl.frE {α : Type} {cl : α → List Value} {sz : Nat} {w : World} {v : Value} {l : List α} (hsz : ∀ a, (cl a).length = sz) (h : Sl w v sz l.length (l.flatMap cl)) (o : Nat) (ho : o ≤ l.length) : Sl w (fromV v sz o) sz (l.drop o).length ((l.drop o).flatMap cl) := by
  have := h.fr o ho
  rw [flat_drop hsz _ _ ho] at this
  rw [List.length_drop]; exact this
end Go.Proofs.YtdfbimlpondblaaDoor.E
