/-
  Calls of a shape's operations (ch. 17): records, answers, how they are counted.
-/
import Derived.Test.YtdfbimlpondblaaGreatDoorOpv
import Derived.Test.YtdfbimlpondblaaGreatDoorIns
set_option linter.unusedVariables false
set_option linter.unusedSimpArgs false
namespace Go.Proofs.YtdfbimlpondblaaGreatDoor.E
open Go Go.RowKit Go.Proofs.YtdfbimlpondblaaGreatDoor.M
set_option linter.unusedVariables false
set_option linter.unusedSimpArgs false
structure CalR where
  kind : Int
  lv : Value
  l : List InsR
  vv : Value
  v : List El
  a : El
  b : El
def cal0 : CalR := ⟨0, .slice none 0 0, [], .slice none 0 0, [], el0, el0⟩
def calL (x : CalR) : List Value := I x.kind :: x.lv :: x.vv :: (elL x.a ++ elL x.b)
theorem calL_len (x : CalR) : (calL x).length = 19 := by simp [calL, elL_len]
structure CalV (K : Vu) (x : CalR) : Prop where
  ins : SlV K x.lv 10 x.l.length (x.l.flatMap insL)
  vals : SlV K x.vv 8 x.v.length (x.v.flatMap elL)
theorem CalV.mono {K K' : Vu} {x : CalR} (h : CalV K x) (hl : Le K K') : CalV K' x := ⟨h.ins.mono hl, h.vals.mono hl⟩
def CalsV (K : Vu) (l : List CalR) : Prop := ∀ x ∈ l, CalV K x
theorem CalsV.mono {K K' : Vu} {l : List CalR} (h : CalsV K l) (hl : Le K K') : CalsV K' l := fun x hx => (h x hx).mono hl
theorem CalsV.at {K : Vu} {l : List CalR} (h : CalsV K l) {k : Int} (h0 : 0 ≤ k) (h1 : k < l.length) : CalV K (l.getD k.toNat cal0) := h _ (List.mem_of_getElem? (getD_at (d := cal0) h0 h1))
theorem cal_aB (x : CalR) : ((calL x).toArray.toList.drop 3).take 8 = elL x.a := by
  show (elL x.a ++ elL x.b).take 8 = _
  rw [List.take_append_of_le_length (by rw [elL_len]; omega)]; exact el_take _
theorem cal_bB (x : CalR) : ((calL x).toArray.toList.drop 11).take 8 = elL x.b := by
  show ((elL x.a ++ elL x.b).drop 8).take 8 = _
  rw [show (8 : Nat) = (elL x.a).length by rw [elL_len], List.drop_left, elL_len]; exact el_take _
theorem calL_one {K : Vu} {x : CalR} (h : CalV K x) : ∀ u ∈ (calL x).toArray, u.oneCell' = true := by
  intro u hu; simp [calL] at hu
  rcases hu with rfl | rfl | rfl | hu | hu
  · rfl
  · exact (one_slice h.ins).1
  · exact (one_slice h.vals).1
  · exact elL_one x.a u (by simpa using hu)
  · exact elL_one x.b u (by simpa using hu)
def ansL (g : El × Bool) : List Value := elL g.1 ++ [B g.2]
theorem ansL_len (g : El × Bool) : (ansL g).length = 9 := by simp [ansL, elL_len]
def ansW (d : Wr) (x : CalR) : El × Bool := if x.kind = 1 then (el0, leqE x.a x.b) else if x.kind = 2 then (joinTb d.tb x.a x.b, false) else evalF d.sh.sh x.l x.v
def ansS (s : Sh) (x : CalR) : El × Bool := if x.kind = 1 then (el0, leqE x.a x.b) else if x.kind = 2 then (joinS s x.a x.b, false) else evalF s x.l x.v
def kdOf (x : CalR) : Kd := if x.kind = 1 then .l else if x.kind = 2 then .j else .e
theorem ansL_congr {g h : El × Bool} (h1 : eqE g.1 h.1) (h2 : g.2 = h.2) : ansL g = ansL h := by
  unfold ansL; have q := elC_congr h1; rw [elC_def, elC_def] at q; have q2 : elL g.1 = elL h.1 := by simpa using congrArg Array.toList q
  rw [q2, h2]
theorem ans_is {d : Wr} {ids : List Nat} {tl : List (Nat × Rl)} (h : d.inn ids tl) {s : Sh} (hs : d.sh.sh = s) (x : CalR) : ansL (ansW d x) = ansL (ansS s x) := by
  subst hs
  unfold ansW ansS
  split
  · rfl
  · split
    · refine ansL_congr ?_ rfl
      show eqE (joinTb d.tb x.a x.b) (joinS d.sh.sh x.a x.b)
      induction d with
      | base p tb => exact joinTb_is h.1 _ _
      | wrap m d ih => exact ih h.2
    · rfl
def OkC (n : Nat) (f : Ct) : Prop := ∀ m, (0 ≤ (f m).e ∧ (f m).e ≤ n) ∧ (0 ≤ (f m).l ∧ (f m).l ≤ n) ∧ (0 ≤ (f m).j ∧ (f m).j ≤ n)
theorem OkC.ok {n : Nat} {f : Ct} (h : OkC n f) (hn : n ≤ 1000000) (m : Nat) : (f m).ok := by
  obtain ⟨⟨a, b⟩, ⟨c, d⟩, e, g⟩ := h m
  exact ⟨⟨a, by omega⟩, ⟨c, by omega⟩, e, by omega⟩
theorem OkC.tick {n : Nat} {f : Ct} (h : OkC n f) (k : Kd) (m : Nat) : OkC (n + 1) (tick1 k m f) := fun i => by
  obtain ⟨⟨a, b⟩, ⟨c, d⟩, e, g⟩ := h i
  obtain ⟨⟨a', b'⟩, ⟨c', d'⟩, e', g'⟩ := h m
  unfold tick1 putM
  by_cases q : i = m
  · rw [if_pos q]
    cases k <;> simp only [Kd.up] <;> omega
  · rw [if_neg q]; omega
def Wr.dep : Wr → Nat
  | .base _ _ => 0
  | .wrap _ d => d.dep + 1
theorem OkC.ticks {d : Wr} (k : Kd) : ∀ {n : Nat} {f : Ct}, OkC n f → OkC (n + d.dep) (d.tick k f) := by
  induction d with
  | base p tb => exact fun h => h
  | wrap m d ih =>
    intro n f h
    have := ih (h.tick k m)
    rw [Nat.add_right_comm] at this; exact this
theorem CallsF.get {P : Program} {f : FuncId} {cs : List Value} {args : List Value} {w : World} {Q : Ending → World → Prop} (h : CallsF P (fnV f cs.toArray) args w Q) : Calls P f (args ++ cs).toArray w Q := by
  obtain ⟨g, ds, h1, -, h3⟩ := h
  injection h1 with e1 e2 e3
  injection e1 with e1
  have e4 : cs = ds := by simpa using congrArg Array.toList e3
  subst e1 e4; exact h3
def EntF (P : Program) (v : Value) : Prop := ∃ (f : FuncId) (cs : List Value), v = fnV f cs.toArray ∧ ∀ args w, (callFunc f args).run P w = .ok (.enter f args) w
end Go.Proofs.YtdfbimlpondblaaGreatDoor.E
namespace Go.Proofs.YtdfbimlpondblaaGreatDoor.E
open Go Go.RowKit Go.Proofs.YtdfbimlpondblaaGreatDoor.M
set_option linter.unusedVariables false
set_option linter.unusedSimpArgs false
theorem ansL_one (g : El × Bool) : ∀ u ∈ (ansL g).toArray, u.oneCell' = true := by
  intro u hu; simp [ansL] at hu
  rcases hu with hu | rfl
  · exact elL_one g.1 u hu
  · rfl
theorem ans_ext (g : El × Bool) : (ansL g).toArray.extract 0 (0 + 8) = elC g.1 := by
  rw [elC_def]; exact Array.ext' (by simp [ansL, elL])
theorem ans_bool (g : El × Bool) : (ansL g).toArray[8]? = some (B g.2) := by simp [ansL, elL]
def bigX (x : CalR) : Bool := decide (60 < x.l.length) || decide (100 < x.v.length)
def bigCal (l : List CalR) : Bool := decide (60 < l.length) || l.any bigX
theorem bigCal_no {l : List CalR} (h : bigCal l = false) : l.length ≤ 60 ∧ ∀ x ∈ l, x.l.length ≤ 60 ∧ x.v.length ≤ 100 := by
  simp only [bigCal, Bool.or_eq_false_iff, decide_eq_false_iff_not, List.any_eq_false, bigX, Bool.or_eq_true, decide_eq_true_eq, not_or] at h
  exact ⟨by omega, fun x hx => by have := h.2 x hx; omega⟩
def kdN (x : CalR) : Int := if x.kind = 1 ∨ x.kind = 2 then x.kind else 0
def cntL (l : List CalR) (q : Int) : Nat := l.countP fun x => decide (kdN x = q)
theorem cnt_next {l : List CalR} {k q : Int} (h0 : 0 ≤ k) (h1 : k < l.length) : cntL (l.take (k + 1).toNat) q = cntL (l.take k.toNat) q + if kdN (l.getD k.toNat cal0) = q then 1 else 0 := by
  have e : (k + 1).toNat = k.toNat + 1 := by omega
  have hk : k.toNat < l.length := by omega
  rw [e, ← List.take_append_getElem hk, cntL, cntL, List.countP_append, List.getD_eq_getElem?_getD, List.getElem?_eq_getElem hk]
  simp [List.countP_cons]
theorem cnt_nextI {l : List CalR} {k q n : Int} (h0 : 0 ≤ k) (h1 : k < l.length) (hn : n = cntL (l.take k.toNat) q) : ((cntL (l.take (k + 1).toNat) q : Nat) : Int) = n + if kdN (l.getD k.toNat cal0) = q then 1 else 0 := by
  rw [cnt_next h0 h1, hn]; split <;> simp
end Go.Proofs.YtdfbimlpondblaaGreatDoor.E
/-! ### The state of a law -/
namespace Go.Proofs.YtdfbimlpondblaaGreatDoor.E
open Go Go.RowKit Go.Proofs.YtdfbimlpondblaaGreatDoor.M
set_option linter.unusedVariables false
set_option linter.unusedSimpArgs false
def ct0 : Ct := fun _ => cn0
theorem TalZ.nil {T : TaT} : TalZ T [] ct0 [] [] := ⟨[], rfl, rfl⟩
theorem TalZ.add {T : TaT} {ids : List Nat} {tl : List (Nat × Rl)} {Z : List Ent} {m : Nat} (h : TalZ T ids ct0 tl Z) : TalZ T (m :: ids) ct0 tl ([blkM T m cn0] ++ Z) := by
  obtain ⟨Zt, h1, rfl⟩ := h; exact ⟨Zt, h1, rfl⟩
theorem TalZ.app {T : TaT} {ids : List Nat} {f : Ct} {tl tm : List (Nat × Rl)} {Z Zt : List Ent} (h : TalZ T ids f tl Z) (ht : TblZ T.tt tm Zt) : TalZ T ids f (tl ++ tm) (Z ++ Zt) := by
  obtain ⟨Zs, h1, rfl⟩ := h; exact ⟨Zs ++ Zt, h1.app ht, by rw [List.append_assoc]⟩
theorem TalZ.blk {T : TaT} {ids : List Nat} {f : Ct} {tl : List (Nat × Rl)} {Z L : List Ent} {m : Nat} {w0 w : World} (h : TalZ T ids f tl Z) (hm : m ∈ ids) (hH : Hp w0 w L) (hs : ∀ x, x ∈ Z → x ∈ L) :
    w.heap[m]? = some (.cells #[B true, I (f m).e, I (f m).l, I (f m).j] T.tmet (0, 0)) := by
  obtain ⟨Zt, h1, rfl⟩ := h
  exact (hH.ok _ (hs _ (List.mem_append_left _ (List.mem_map.2 ⟨m, hm, rfl⟩)))).2
theorem Hp.putZ2 {w0 w : World} {Zt Zq A Zf R : List Ent} (h : Hp w0 w ((Zt ++ Zq) ++ (A ++ (Zf ++ R)))) : Hp w0 w (A ++ ((Zf ++ Zt) ++ (Zq ++ R))) := h.perm (by
  rw [List.append_assoc, List.append_assoc]
  refine ((List.Perm.append_left Zt (List.perm_append_comm_assoc Zq A _)).trans (List.perm_append_comm_assoc Zt A _)).trans (List.Perm.append_left A ?_)
  refine (List.Perm.append_left Zt (List.perm_append_comm_assoc Zq Zf R)).trans (List.perm_append_comm_assoc Zt Zf _))
theorem OkC.zero : OkC 0 ct0 := fun m => by simp [ct0, cn0]
theorem OkC.clear {n : Nat} {f : Ct} (h : OkC n f) (m : Nat) : OkC n (putM f m cn0) := fun i => by
  unfold putM
  by_cases q : i = m
  · rw [if_pos q]; simp [cn0]
  · rw [if_neg q]; exact h i
theorem OkC.mono {n k : Nat} {f : Ct} (h : OkC n f) (hk : n ≤ k) : OkC k f := fun m => by
  obtain ⟨⟨a, b⟩, ⟨c, d⟩, e, g⟩ := h m
  exact ⟨⟨a, by omega⟩, ⟨c, by omega⟩, e, by omega⟩
end Go.Proofs.YtdfbimlpondblaaGreatDoor.E
namespace Go.Proofs.YtdfbimlpondblaaGreatDoor.E
open Go Go.RowKit Go.Proofs.YtdfbimlpondblaaGreatDoor.M
theorem cal_sm {l : List CalR} (h : bigCal l = false) {k : Int} (h0 : 0 ≤ k) (h1 : k < l.length) : (l.getD k.toNat cal0).l.length ≤ 1000 := by
  have := (bigCal_no h).2 _ (List.mem_of_getElem? (getD_at (d := cal0) h0 h1)); omega
theorem eqE_rfl (a : El) : eqE a a := fun _ _ => rfl
end Go.Proofs.YtdfbimlpondblaaGreatDoor.E
namespace Go.Proofs.YtdfbimlpondblaaGreatDoor.E
open Go Go.RowKit Go.Proofs.YtdfbimlpondblaaGreatDoor.M
theorem Hp.app0 {w0 w : World} {A Zf : List Ent} (h : Hp w0 w (A ++ Zf)) : Hp w0 w (A ++ (Zf ++ [])) := by rwa [List.append_nil]
def exAB : List Tx := [⟨#[97]⟩, ⟨#[98]⟩]
def exT : Sh := ⟨false, [⟨2, exAB, Rl.none⟩]⟩
def exE1 : El := putE el0 0 1#64
def exE2 : El := putE el0 0 2#64
def exE3 : El := putE el0 0 3#64
theorem exL1 : leqE exE1 exE3 = true := by decide
theorem exL2 : leqE exE2 exE1 = false := by decide
theorem exJ {d : Wr} {ids : List Nat} {tl : List (Nat × Rl)} (h : d.inn ids tl) (hs : d.sh.sh = exT) : eqE (joinTb d.tb exE1 exE2) exE3 := by
  have : ∀ d : Wr, d.inn ids tl → d.sh.sh = exT → eqE (joinTb d.tb exE1 exE2) (joinS exT exE1 exE2) := fun d => by
    induction d with
    | base p tb => intro h hs; rw [← hs]; exact joinTb_is h.1 _ _
    | wrap m d ih => intro h hs; exact ih h.2 hs
  intro i hi
  rw [this d h hs i hi]
  match i, hi with
  | 0, _ => decide
  | 1, _ => decide
  | 2, _ => decide
  | 3, _ => decide
  | 4, _ => decide
  | 5, _ => decide
  | 6, _ => decide
  | 7, _ => decide
end Go.Proofs.YtdfbimlpondblaaGreatDoor.E
namespace Go.Proofs.YtdfbimlpondblaaGreatDoor.E
open Go Go.RowKit Go.Proofs.YtdfbimlpondblaaGreatDoor.M
theorem Hp.swz {w0 w : World} {A z Zf R : List Ent} (h : Hp w0 w (A ++ (z ++ (Zf ++ R)))) : Hp w0 w (A ++ (Zf ++ (z ++ R))) := h.perm (List.Perm.append_left A (by
  rw [← List.append_assoc, ← List.append_assoc]
  exact List.perm_append_comm.append_right R))
end Go.Proofs.YtdfbimlpondblaaGreatDoor.E
namespace Go.Proofs.YtdfbimlpondblaaGreatDoor.E
open Go Go.RowKit Go.Proofs.YtdfbimlpondblaaGreatDoor.M
theorem Sl.partE {α : Type} {cl : α → List Value} {sz : Nat} {w : World} {v : Value} {l : List α} (hsz : ∀ a, (cl a).length = sz) (h : Sl w v sz l.length (l.flatMap cl)) {i j : Nat} (hij : i < j) (hj : j ≤ l.length) : Sl w (subV v sz i j) sz ((l.take j).drop i).length (((l.take j).drop i).flatMap cl) := by
  have h1 := h.part hij hj
  have e1 : ((l.take j).drop i).length = j - i := by rw [List.length_drop, List.length_take, Nat.min_eq_left hj]
  have e2 : ((l.take j).drop i).flatMap cl = ((l.flatMap cl).drop (i * sz)).take ((j - i) * sz) := by
    rw [List.drop_take, flat_drop hsz _ _ (by omega), flat_take hsz]
  rw [e1, e2]; exact h1
def CntOk (c : Cn) (l : List CalR) : Prop := c.e = cntL l 0 ∧ c.l = cntL l 1 ∧ c.j = cntL l 2
theorem CntOk.nil : CntOk cn0 [] := ⟨rfl, rfl, rfl⟩
theorem CntOk.tick {f : Ct} {m : Nat} {l : List CalR} {x : CalR} (h : CntOk (f m) l) : CntOk ((tick1 (kdOf x) m f) m) (l ++ [x]) := by
  obtain ⟨h1, h2, h3⟩ := h
  have e : tick1 (kdOf x) m f m = (kdOf x).up (f m) := by unfold tick1 putM; rw [if_pos rfl]
  have c : ∀ q, cntL (l ++ [x]) q = cntL l q + if kdN x = q then 1 else 0 := fun q => by
    rw [cntL, List.countP_append]; simp [cntL, List.countP_cons]
  rw [e]
  unfold CntOk
  rw [c, c, c]
  unfold kdOf kdN
  by_cases a : x.kind = 1
  · simp [a, Kd.up, h1, h2, h3]
  · by_cases b : x.kind = 2
    · simp [b, Kd.up, h1, h2, h3]
    · simp [a, b, Kd.up, h1, h2, h3]
theorem had_next {l : List CalR} {k fr : Int} (h0 : 0 ≤ fr) (h1 : fr ≤ k) (h2 : k < l.length) : (l.take (k + 1).toNat).drop fr.toNat = (l.take k.toNat).drop fr.toNat ++ [l.getD k.toNat cal0] := by
  have e : (k + 1).toNat = k.toNat + 1 := by omega
  have hk : k.toNat < l.length := by omega
  rw [e, ← List.take_append_getElem hk, List.drop_append_of_le_length (by rw [List.length_take]; omega), List.getD_eq_getElem?_getD, List.getElem?_eq_getElem hk]; rfl
theorem CntOk.cleared {f : Ct} {m : Nat} {l : List CalR} {k : Int} : CntOk (putM f m cn0 m) ((l.take k.toNat).drop k.toNat) := by
  have e : (l.take k.toNat).drop k.toNat = [] := List.drop_eq_nil_of_le (by rw [List.length_take]; omega)
  rw [e]; unfold putM; rw [if_pos rfl]; exact CntOk.nil
theorem CntOk.next {f : Ct} {m : Nat} {l : List CalR} {k fr : Int} (h : CntOk (f m) ((l.take k.toNat).drop fr.toNat)) (h0 : 0 ≤ fr) (h1 : fr ≤ k) (h2 : k < l.length) : CntOk ((tick1 (kdOf (l.getD k.toNat cal0)) m f) m) ((l.take (k + 1).toNat).drop fr.toNat) := by
  rw [had_next h0 h1 h2]; exact h.tick
end Go.Proofs.YtdfbimlpondblaaGreatDoor.E
namespace Go.Proofs.YtdfbimlpondblaaGreatDoor.E
open Go Go.RowKit Go.Proofs.YtdfbimlpondblaaGreatDoor.M
def TwoOk (a b c : Nat) (f : Ct) (k : Int) : Prop := (f a).e = (f b).e ∧ (f a).l = (f b).l ∧ (f a).j = (f b).j ∧ (f c).e = 2 * (f a).e ∧ (f c).l = 2 * (f a).l ∧ (f c).j = 2 * (f a).j ∧ (f a).e + (f a).l + (f a).j = k
theorem TwoOk.zero {a b c : Nat} : TwoOk a b c ct0 0 := ⟨rfl, rfl, rfl, rfl, rfl, rfl, rfl⟩
theorem TwoOk.next {a b c : Nat} {f : Ct} {k : Int} (h : TwoOk a b c f k) (hn : [c, b, a].Nodup) (q : Kd) : TwoOk a b c (tick1 q c (tick1 q c (tick1 q b (tick1 q a f)))) (k + 1) := by
  simp only [List.nodup_cons, List.mem_cons, List.not_mem_nil, or_false, not_or] at hn
  obtain ⟨⟨h1, h2⟩, h3, -⟩ := hn
  obtain ⟨e1, e2, e3, e4, e5, e6, e7⟩ := h
  have fa : tick1 q c (tick1 q c (tick1 q b (tick1 q a f))) a = q.up (f a) := by simp [tick1, putM, h2, h3, Ne.symm h2, Ne.symm h3]
  have fb : tick1 q c (tick1 q c (tick1 q b (tick1 q a f))) b = q.up (f b) := by simp [tick1, putM, h1, h3, Ne.symm h1, Ne.symm h3]
  have fc : tick1 q c (tick1 q c (tick1 q b (tick1 q a f))) c = q.up (q.up (f c)) := by simp [tick1, putM, h1, h2, Ne.symm h1, Ne.symm h2]
  unfold TwoOk
  rw [fa, fb, fc]
  cases q <;> simp only [Kd.up] <;> omega
end Go.Proofs.YtdfbimlpondblaaGreatDoor.E
