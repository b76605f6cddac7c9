/-
  Factors, shapes and elements: their cells, and what they are, plainly.
-/
import Derived.Test.YtdfbimlpondblaaGreatDoorVu
import Derived.Test.YtdfbimlpondblaaGreatDoorGrd
namespace Go.Proofs.YtdfbimlpondblaaGreatDoor.M
open Go
set_option linter.unusedVariables false
abbrev El := Nat → BitVec 64
def eqE (a b : El) : Prop := ∀ i, i < 8 → a i = b i
instance (a b : El) : Decidable (eqE a b) := inferInstanceAs (Decidable (∀ i, i < 8 → a i = b i))
def el0 : El := fun _ => 0#64
def putE (e : El) (i : Nat) (x : BitVec 64) : El := fun j => if j = i then x else e j
structure Fc where
  kind : Int
  names : List Tx
  rel : Rl
structure Sh where
  tuple : Bool
  facs : List Fc
def fc0 : Fc := ⟨0, [], Rl.none⟩
def namedF (l : List Tx) : Bool := decide (1 ≤ l.length ∧ l.length ≤ 64) && decide (twice l < 0) && l.all nameR
def factorR (f : Fc) : Bool := namedF f.names &&
  (if f.kind = 1 ∨ f.kind = 2 then decide (pts f.rel = 0) else if f.kind = 3 then decide (f.rel.n = f.names.length) && rightG f.rel else if f.kind = 4 then decide (f.rel.n = f.names.length) && latB f.rel else false)
def shR (s : Sh) : Bool := decide (1 ≤ s.facs.length ∧ s.facs.length ≤ 8) && (s.tuple || decide (s.facs.length = 1)) && s.facs.all factorR
def alikeF (a b : Fc) : Bool := decide (a.kind = b.kind) && decide (a.names = b.names) && decide ((plainR a.rel).eq (plainR b.rel))
def sameS (a b : Sh) : Bool := decide (a.tuple = b.tuple) && decide (a.facs.length = b.facs.length) && (upto a.facs.length).all fun i => alikeF (a.facs.getD i.toNat fc0) (b.facs.getD i.toNat fc0)
def wordF (f : Fc) (w : BitVec 64) : Bool := if f.kind = 1 then (level f.names.length w).2 else if f.kind = 2 then subB w (below f.names.length) else if f.kind = 3 then closedG f.rel w else (pointV f.rel w).2
def fitsS (s : Sh) (e : El) : Bool := shR s && (upto 8).all fun i => if i < s.facs.length then wordF (s.facs.getD i.toNat fc0) (e i.toNat) else decide (e i.toNat = 0#64)
def FitTo (s : Sh) (e : El) (k : Int) : Prop := ∀ j : Int, 0 ≤ j → j < k → (j < s.facs.length → wordF (s.facs.getD j.toNat fc0) (e j.toNat) = true) ∧ (¬ j < s.facs.length → e j.toNat = 0#64)
theorem FitTo.none (s : Sh) (e : El) : FitTo s e 0 := fun j a b => absurd b (by omega)
theorem FitTo.next {s : Sh} {e : El} {k : Int} (h : FitTo s e k) (h1 : k < s.facs.length → wordF (s.facs.getD k.toNat fc0) (e k.toNat) = true) (h2 : ¬ k < s.facs.length → e k.toNat = 0#64) : FitTo s e (k + 1) := fun j a b => by
  by_cases he : j = k
  · subst he; exact ⟨h1, h2⟩
  · exact h j a (by omega)
def leqE (a b : El) : Bool := (upto 8).all fun i => subB (a i.toNat) (b i.toNat)
theorem leq_no {a b : El} {k : Int} (k0 : 0 ≤ k) (k1 : k < 8) (h : subB (a k.toNat) (b k.toNat) = false) : leqE a b = false := by
  cases hc : leqE a b with
  | false => rfl
  | true =>
    rw [leqE, List.all_eq_true] at hc
    rw [hc k (mem_upto.2 ⟨k0, k1⟩)] at h; cases h
theorem leq_yes {a b : El} {k : Int} (hk : ¬ k < 8) (hf : ∀ j : Int, 0 ≤ j → j < k → subB (a j.toNat) (b j.toNat) = true) : leqE a b = true := by
  rw [leqE, List.all_eq_true]
  intro i hi
  have := mem_upto.1 hi
  exact hf i this.1 (by omega)
def joinW (s : Sh) (a b : El) (i : Nat) : BitVec 64 := if (i : Int) < s.facs.length ∧ (s.facs.getD i fc0).kind = 4 then raiseV (s.facs.getD i fc0).rel (a i) (b i) else a i ||| b i
def joinS (s : Sh) (a b : El) : El := fun i => joinW s a b i
def meetE (a b : El) : El := fun i => a i &&& b i
def mixE (a b : El) (k : Int) : El := fun i => if (i : Int) < k then a i else b i
theorem mix_zero (a b : El) : mixE a b 0 = b := funext fun i => if_neg (by omega)
theorem mix_put {a b : El} {k : Int} {x : BitVec 64} (k0 : 0 ≤ k) (h : x = a k.toNat) : putE (mixE a b k) k.toNat x = mixE a b (k + 1) := funext fun i => by
  unfold putE mixE
  by_cases h1 : i = k.toNat
  · subst h1; rw [if_pos rfl, if_pos (by omega), h]
  · rw [if_neg h1]
    by_cases h2 : (i : Int) < k
    · rw [if_pos h2, if_pos (by omega)]
    · rw [if_neg h2, if_neg (by omega)]
theorem mix_at {a b : El} {k : Int} (k0 : 0 ≤ k) : mixE a b k k.toNat = b k.toNat := if_neg (by omega)
theorem mix_all {a b : El} {k : Int} (hk : ¬ k < 8) : eqE (mixE a b k) a := fun i hi => if_pos (by omega)
def leastF (f : Fc) : BitVec 64 := if f.kind ≠ 4 then 0#64 else belowR f.rel (endV f.rel (aboveR f.rel)).1
def greatF (f : Fc) : BitVec 64 := if f.kind = 1 then topv f.names.length else if f.kind = 2 then below f.names.length else if f.kind = 3 then topG f.rel else belowR f.rel (endV f.rel (belowR f.rel)).1
def eachS (s : Sh) (f : Fc → BitVec 64) : El := fun i => if shR s = true ∧ (i : Int) < s.facs.length then f (s.facs.getD i fc0) else 0#64
def highF (f : Fc) : Int := if f.kind = 1 then f.names.length - 1 else if f.kind = 2 then f.names.length else if f.kind = 3 then heightG f.rel else (longV f.rel).1
def sumTo (s : Sh) (k : Int) : Int := ((upto k).map fun i => highF (s.facs.getD i.toNat fc0)).sum
def heightS (s : Sh) : Int := if shR s then sumTo s s.facs.length else 0
end Go.Proofs.YtdfbimlpondblaaGreatDoor.M
namespace Go.Proofs.YtdfbimlpondblaaGreatDoor.E
open Go Go.RowKit Go.Proofs.YtdfbimlpondblaaGreatDoor.M
set_option linter.unusedVariables false
/-! ### Cells -/
def elL (e : El) : List Value := (List.range 8).map fun i => U (e i)
@[irreducible] def elC (e : El) : Array Value := (elL e).toArray
theorem elC_def (e : El) : elC e = (elL e).toArray := by unfold elC; rfl
theorem elL_len (e : El) : (elL e).length = 8 := by simp [elL]
theorem elC_size (e : El) : (elC e).size = 8 := by rw [elC_def]; simp [elL]
theorem elC_at (e : El) {i : Nat} (h : i < 8) : (elC e)[0 + i * 1]? = some (U (e i)) := by
  rw [elC_def, show 0 + i * 1 = i by omega]; simp [elL, h]
theorem elC_put (e : El) (i : Nat) (x : BitVec 64) : (elC e).setIfInBounds (0 + i * 1) (U x) = elC (putE e i x) := by
  rw [elC_def, elC_def]
  apply Array.ext_getElem?
  intro j
  rw [Array.getElem?_setIfInBounds]
  simp only [List.getElem?_toArray, List.size_toArray]
  rw [elL_len]
  simp only [elL, List.getElem?_map]
  by_cases h : i = j
  · subst h
    rw [if_pos (by omega)]
    by_cases h2 : i < 8
    · rw [if_pos (by omega)]; simp [h2, putE]
    · rw [if_neg (by omega)]; simp [h2]
  · rw [if_neg (by omega)]
    by_cases h2 : j < 8
    · have h3 : ¬ j = i := fun e => h e.symm
      simp [h2, putE, h3]
    · simp [h2]
theorem elC_congr {a b : El} (h : eqE a b) : elC a = elC b := by
  rw [elC_def, elC_def, elL, elL]
  congr 1
  exact List.map_congr_left fun i hi => by rw [h i (by simpa using hi)]
theorem elC_zero : elC el0 = Array.replicate 8 (U 0#64) := by rw [elC_def]; rfl
theorem elC_one (e : El) : ∀ u ∈ elC e, u.oneCell' = true := by
  rw [elC_def]; simp [elL]
  exact fun _ _ => rfl
structure Fac where
  kind : Int
  nv : Value
  names : List Tx
  rel : Rl
def Fac.fc (f : Fac) : Fc := ⟨f.kind, f.names, f.rel⟩
def facL (f : Fac) : List Value := I f.kind :: f.nv :: relL f.rel
theorem facL_len (f : Fac) : (facL f).length = 67 := by simp [facL, relL_len]
abbrev facC (f : Fac) : Array Value := (facL f).toArray
def fac0 : Fac := ⟨0, .slice none 0 0, [], Rl.none⟩
theorem facC_relat (f : Fac) : ∀ j c, (relL f.rel)[j]? = some c → (facL f)[2 + j]? = some c := fun j c h => by
  rw [show 2 + j = j + 1 + 1 by omega]; simpa [facL] using h
structure FacV (K : Vu) (f : Fac) : Prop where
  names : SlV K f.nv 1 f.names.length (txL f.names)
theorem FacV.mono {K K' : Vu} {f : Fac} (h : FacV K f) (hl : Le K K') : FacV K' f := ⟨h.names.mono hl⟩
structure Shp where
  tuple : Bool
  fv : Value
  facs : List Fac
def Shp.sh (s : Shp) : Sh := ⟨s.tuple, s.facs.map Fac.fc⟩
abbrev shpC (s : Shp) : Array Value := #[B s.tuple, s.fv]
structure ShpV (K : Vu) (s : Shp) : Prop where
  facs : SlV K s.fv 67 s.facs.length (s.facs.flatMap facL)
  each : ∀ f ∈ s.facs, FacV K f
theorem ShpV.mono {K K' : Vu} {s : Shp} (h : ShpV K s) (hl : Le K K') : ShpV K' s := ⟨h.facs.mono hl, fun f hf => (h.each f hf).mono hl⟩
theorem sh_len (s : Shp) : s.sh.facs.length = s.facs.length := by simp [Shp.sh]
theorem sh_get (s : Shp) (k : Int) : s.sh.facs.getD k.toNat fc0 = (s.facs.getD k.toNat fac0).fc := by
  rw [Shp.sh, List.getD_eq_getElem?_getD, List.getD_eq_getElem?_getD, List.getElem?_map]
  cases s.facs[k.toNat]? <;> rfl
theorem ShpV.at {K : Vu} {s : Shp} (h : ShpV K s) {k : Int} (h0 : 0 ≤ k) (h1 : k < s.facs.length) : FacV K (s.facs.getD k.toNat fac0) := h.each _ (List.mem_of_getElem? (getD_at (d := fac0) h0 h1))
section runs
variable {P : Program} {σ : Env} {w : World} {dst : Option Tmp} {ty t u e : TypeId} {pos : String} {aft : Array Edge} {g : Option (Nat × Bool)} {x y : Operand} {b : Nat} {fr : Nat × Nat}
structure ElT (P : Program) (t e : TypeId) : Prop where
  u : P.underlying t = some (.array 8 e)
  ue : P.underlying e = some (.int .u64)
  se : ∀ w, (sizeOf e).run P w = .ok 1 w
  ae : ∀ w, (isAgg e).run P w = .ok false w
  eg : P.eqGuardType P.depth t = false
theorem ElT.eql (T : ElT P t e) (a b : El) (w : World) : (Op.equalIn 10000 t (.agg (elC a)) (.agg (elC b))).run P w = .ok (decide (eqE a b)) w := by
  rw [elC_def, elC_def]
  exact eqArr 9998 a b T.u T.ue T.se T.ae
theorem run_eqlEl {a b : El} (T : ElT P t e) (hx : ev σ x = .agg (elC a)) (hy : ev σ y = .agg (elC b)) :
    (execOp (ev σ) ⟨dst, .binOp .eql t x y u, ty, pos, aft, g⟩).run P w = .ok (.value (.bool (decide (eqE a b)))) w := by
  have h := run_eql_struct (P := P) w t (elC a) (elC b)
  rw [T.eql] at h
  simp only [execOp, hx, hy, Sem.run_bind, run_eqGuard_agg w .eql t x y _ _ T.eg, Result.andThen_ok]
  simp [h]
theorem run_ldEl {a : El} {d : TypeDesc} (hu : P.underlying t = some d) (hd : d.isRow = true) (hi : (P.info? t).map (·.size) = some 8) (hx : ev σ x = .pointer (some ⟨b, 0, none⟩))
    (hg : w.heap[b]? = some (.cells (elC a) e fr)) : (execOp (ev σ) ⟨dst, .load t x, ty, pos, aft, g⟩).run P w = .ok (.value (.agg (elC a))) w := by
  rw [elC_def] at hg ⊢
  exact run_ldA hu hd (by rw [elL_len]; exact hi) hx (rangeAt_cells hg)
theorem run_stEl {a a0 : El} (hi : (P.info? t).map (·.size) = some 8) (hx : ev σ x = .pointer (some ⟨b, 0, none⟩)) (hy : ev σ y = .agg (elC a)) (hg : w.heap[b]? = some (.cells (elC a0) e (0, 0))) :
    (execOp (ev σ) ⟨dst, .store t x y, ty, pos, aft, g⟩).run P w = .ok .skip (w.setRow b (elC a)) :=
  run_stW (by rw [elC_size]; exact hi) hx hy (elC_one a) hg (by rw [elC_size, elC_size])
theorem run_ldFac {f : Fac} {d : TypeDesc} (hu : P.underlying t = some d) (hd : d.isRow = true) (hi : (P.info? t).map (·.size) = some 67) (hx : ev σ x = .pointer (some ⟨b, 0, none⟩))
    (hg : w.heap[b]? = some (.cells (facC f) e fr)) : (execOp (ev σ) ⟨dst, .load t x, ty, pos, aft, g⟩).run P w = .ok (.value (.agg (facC f))) w :=
  run_ldA hu hd (by rw [facL_len]; exact hi) hx (rangeAt_cells hg)
theorem one_slice {K : Vu} {v : Value} {sz n : Nat} {c : List Value} (h : SlV K v sz n c) : v.oneCell' = true ∧ v.cells = #[v] := by
  obtain ⟨a, cap, rfl, -, -⟩ := h.shape; exact ⟨rfl, rfl⟩
theorem facC_one {K : Vu} {f : Fac} (h : FacV K f) : ∀ u ∈ facL f, u.oneCell' = true := by
  intro u hu
  rw [facL, List.mem_cons, List.mem_cons] at hu
  rcases hu with rfl | rfl | hu
  · rfl
  · exact (one_slice h.names).1
  · exact relC_one f.rel u (by rw [relC_def]; simpa using hu)
theorem run_stFac {K : Vu} {f f0 : Fac} (h : FacV K f) (hi : (P.info? t).map (·.size) = some 67) (hx : ev σ x = .pointer (some ⟨b, 0, none⟩)) (hy : ev σ y = .agg (facC f)) (hg : w.heap[b]? = some (.cells (facC f0) e (0, 0))) :
    (execOp (ev σ) ⟨dst, .store t x y, ty, pos, aft, g⟩).run P w = .ok .skip (w.setRow b (facC f)) :=
  run_stW (by simp only [List.size_toArray, facL_len]; exact hi) hx hy (by simpa using facC_one h) hg (by simp [facL_len])
theorem run_ldElS {d : TypeDesc} {v : Value} {l : List El} {k : Int} (hS : Sl w v 8 l.length (l.flatMap elL)) (hu : P.underlying t = some d) (hd : d.isRow = true) (hi : (P.info? t).map (·.size) = some 8)
    (hx : ev σ x = .pointer (some ⟨sb v, so v + k.toNat * 8, none⟩)) (hk : 0 ≤ k ∧ k < l.length) : (execOp (ev σ) ⟨dst, .load t x, ty, pos, aft, g⟩).run P w = .ok (.value (.agg (elC (l.getD k.toNat el0)))) w := by
  rw [elC_def]; exact run_ldE elL_len hS hu hd hi hx hk
theorem outCg {w0 : World} {fn : Func} {L : List Ent} {i p : Nat} {q : Value → World → Prop} {d : TypeDesc} {c : Array Value} (h : fn.results = #[.cell p ty]) (hp : σ p = .pointer (some ⟨b, 0, none⟩)) (hH : Hp w0 w L)
    (hi : L[i]? = some (.blk b (.cells c e fr))) (hu : P.underlying ty = some d) (hd : d.isRow = true) (hz : (P.info? ty).map (·.size) = some c.size) (hq : q (.agg c) w) : Out P fn q σ w :=
  fun n a ha => ⟨_, results_cell_row h _ w b e c fr d (by rw [ha.get, hp]) (hH.blk hi) hu (by cases d <;> simp_all) hz, hq⟩
theorem run_ldFR {d : TypeDesc} {v : Value} {l : List Fac} {k : Int} (hS : Sl w v 67 l.length (l.flatMap facL)) (hu : P.underlying t = some d) (hd : d.isRow = true) (hi : (P.info? t).map (·.size) = some 65)
    (hx : ev σ x = .pointer (some ⟨sb v, so v + k.toNat * 67 + 2, none⟩)) (hk : 0 ≤ k ∧ k < l.length) :
    (execOp (ev σ) ⟨dst, .load t x, ty, pos, aft, g⟩).run P w = .ok (.value (.agg (relC (l.getD k.toNat fac0).rel))) w := by
  rw [relC_def]
  exact run_ldEA facL_len hS hu hd (by rw [relL_len]; exact hi) hx hk (facC_relat _)
theorem run_ldBR {d : TypeDesc} {f : Fac} (hu : P.underlying t = some d) (hd : d.isRow = true) (hi : (P.info? t).map (·.size) = some 65) (hx : ev σ x = .pointer (some ⟨b, 0 + 2, none⟩))
    (hg : w.heap[b]? = some (.cells (facC f) e fr)) : (execOp (ev σ) ⟨dst, .load t x, ty, pos, aft, g⟩).run P w = .ok (.value (.agg (relC f.rel))) w := by
  rw [relC_def]
  refine run_ldA hu hd (by rw [relL_len]; exact hi) hx fun j c hj => ?_
  rw [cell_of_row w b _ _ e fr hg]
  simpa using facC_relat f j c hj
end runs
end Go.Proofs.YtdfbimlpondblaaGreatDoor.E
