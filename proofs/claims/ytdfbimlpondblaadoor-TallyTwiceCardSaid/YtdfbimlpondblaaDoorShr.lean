/-
  How shapes are made: the logic for new memory that holds them.
-/
import Derived.Test.YtdfbimlpondblaaDoorShq
namespace Go.Proofs.YtdfbimlpondblaaDoor.E
open Go Go.RowKit Go.Proofs.YtdfbimlpondblaaDoor.M
set_option linter.unusedVariables false
def shpL (s : Shp) : List Value := [B s.tuple, s.fv]
theorem shpL_len (s : Shp) : (shpL s).length = 2 := rfl
def shp0 : Shp := ⟨false, .slice none 0 0, []⟩
structure ShpsV (K : Vu) (l : List Shp) : Prop where
  each : ∀ s ∈ l, ShpV K s
theorem ShpsV.at {K : Vu} {l : List Shp} (h : ShpsV K l) {k : Int} (h0 : 0 ≤ k) (h1 : k < l.length) : ShpV K (l.getD k.toNat shp0) := h.each _ (List.mem_of_getElem? (getD_at (d := shp0) h0 h1))
theorem ShpsV.mono {K K' : Vu} {l : List Shp} (h : ShpsV K l) (hl : Le K K') : ShpsV K' l := ⟨fun s hs => (h.each s hs).mono hl⟩
structure FacsV (K : Vu) (l : List Fac) : Prop where
  each : ∀ f ∈ l, FacV K f
theorem FacsV.mono {K K' : Vu} {l : List Fac} (h : FacsV K l) (hl : Le K K') : FacsV K' l := ⟨fun s hs => (h.each s hs).mono hl⟩
theorem FacsV.nil (K : Vu) : FacsV K [] := ⟨fun f hf => by simp at hf⟩
theorem FacsV.snoc {K : Vu} {l : List Fac} {f : Fac} (h : FacsV K l) (hf : FacV K f) : FacsV K (l ++ [f]) := ⟨fun x hx => by
  rcases List.mem_append.1 hx with hx | hx
  · exact h.each x hx
  · simp at hx; subst hx; exact hf⟩
theorem FacsV.app {K : Vu} {l m : List Fac} (h : FacsV K l) (hf : FacsV K m) : FacsV K (l ++ m) := ⟨fun x hx => by
  rcases List.mem_append.1 hx with hx | hx
  · exact h.each x hx
  · exact hf.each x hx⟩
theorem FacsV.at {K : Vu} {l : List Fac} (h : FacsV K l) {k : Int} (h0 : 0 ≤ k) (h1 : k < l.length) : FacV K (l.getD k.toNat fac0) := h.each _ (List.mem_of_getElem? (getD_at (d := fac0) h0 h1))
def prodF (l : List Shp) : List Fc := l.flatMap fun s => s.sh.facs
theorem prod_next {l : List Shp} {k : Int} (h0 : 0 ≤ k) (h1 : k < l.length) : prodF (l.take (k + 1).toNat) = prodF (l.take k.toNat) ++ (l.getD k.toNat shp0).sh.facs := by
  have h2 : k.toNat < l.length := by omega
  rw [show (k + 1).toNat = k.toNat + 1 by omega, List.take_add_one, prodF, List.flatMap_append, List.getD_eq_getElem?_getD, List.getElem?_eq_getElem h2]
  simp [prodF]
theorem prod_all {l : List Shp} {k : Int} (h : ¬ k < l.length) : prodF (l.take k.toNat) = prodF l := by
  rw [List.take_of_length_le (by omega)]
theorem facs_next {l : List Fac} {k : Int} (h0 : 0 ≤ k) (h1 : k < l.length) : (l.take (k + 1).toNat).map Fac.fc = (l.take k.toNat).map Fac.fc ++ [(l.getD k.toNat fac0).fc] := by
  have h2 : k.toNat < l.length := by omega
  rw [show (k + 1).toNat = k.toNat + 1 by omega, List.take_add_one, List.map_append, List.getD_eq_getElem?_getD, List.getElem?_eq_getElem h2]
  simp
theorem one_two {b : Bool} {v : Value} (h : v.oneCell' = true) : ∀ u ∈ (#[B b, v] : Array Value), u.oneCell' = true := fun u hu => by
  simp only [List.mem_toArray, List.mem_cons, List.not_mem_nil, or_false] at hu
  rcases hu with rfl | rfl
  · rfl
  · exact h
theorem app_get {Z L : List Ent} {i : Nat} {x : Ent} (h : L[i]? = some x) : (Z ++ L)[Z.length + i]? = some x := by
  rw [List.getElem?_append_right (by omega), Nat.add_sub_cancel_left]; exact h
theorem fac1_one {K : Vu} {f : Fac} (h : FacV K f) : ∀ u ∈ [f].flatMap facL, u.oneCell' = true := by simpa using facC_one h
theorem facC_one2 {K : Vu} {f : Fac} {v : Value} (h : FacV K f) (hv : v.oneCell' = true) : ∀ u ∈ facL { f with nv := v }, u.oneCell' = true := by
  intro u hu
  rw [facL, List.mem_cons, List.mem_cons] at hu
  rcases hu with rfl | rfl | hu
  · rfl
  · exact hv
  · exact relC_one f.rel u (by rw [relC_def]; simpa using hu)
section runs
variable {P : Program} {σ : Env} {w : World} {dst : Option Tmp} {ty t u e : TypeId} {pos : String} {aft : Array Edge} {g : Option (Nat × Bool)} {x y : Operand} {b : Nat} {fr : Nat × Nat}
theorem run_stFacO {f f0 : Fac} (h : ∀ u ∈ facL f, u.oneCell' = true) (hi : (P.info? t).map (·.size) = some 67) (hx : ev σ x = .pointer (some ⟨b, 0, none⟩)) (hy : ev σ y = .agg (facC f)) (hg : w.heap[b]? = some (.cells (facC f0) e (0, 0))) :
    (execOp (ev σ) ⟨dst, .store t x y, ty, pos, aft, g⟩).run P w = .ok .skip (w.setRow b (facC f)) :=
  run_stW (by simp only [List.size_toArray, facL_len]; exact hi) hx hy (by simpa using h) hg (by simp [facL_len])
theorem run_stFac1 {f : Fac} {v : Value} (hi : (P.info? t).map (·.size) = some 1) (hx : ev σ x = .pointer (some ⟨b, 0 + 1, none⟩)) (hy : ev σ y = v) (hv : v.cells = #[v]) (h1 : v.oneCell' = true) (hg : w.heap[b]? = some (.cells (facC f) e (0, 0))) :
    (execOp (ev σ) ⟨dst, .store t x y, ty, pos, aft, g⟩).run P w = .ok .skip (w.setRow b (facC { f with nv := v })) := by
  have h := run_st (P := P) (dst := dst) (ty := ty) (pos := pos) (aft := aft) (g := g) hi hx hy hv h1 hg (by simp [facL_len])
  rw [h]; congr 2
theorem shpC_one {K : Vu} {s : Shp} (h : ShpV K s) : ∀ u ∈ shpC s, u.oneCell' = true := by
  intro u hu
  have h1 := one_slice h.facs
  simp at hu
  rcases hu with rfl | rfl
  · rfl
  · exact h1.1
theorem run_stShp {K : Vu} {s : Shp} {c : Array Value} (h : ShpV K s) (hi : (P.info? t).map (·.size) = some 2) (hx : ev σ x = .pointer (some ⟨b, 0, none⟩)) (hy : ev σ y = .agg (shpC s)) (hg : w.heap[b]? = some (.cells c e (0, 0))) (hc : c.size = 2) :
    (execOp (ev σ) ⟨dst, .store t x y, ty, pos, aft, g⟩).run P w = .ok .skip (w.setRow b (shpC s)) :=
  run_stW (by exact hi) hx hy (shpC_one h) hg (by rw [hc]; rfl)
theorem run_mkFacs {len : Nat} {ps : List (Nat × Operand)} {l : List Fac} {ie : TypeInfo} {z : Value}
    (hu : P.underlying t = some (.slice e)) (hie : P.info? e = some ie) (hz : ie.zero = some z) (hsz : ie.size = 67) (hl : l.length = len) (hsmall : ¬ len * 67 > 2 ^ 24) (hpos : ¬ len * 67 = 0)
    (h : ps.map (fun p => (p.1, ev σ p.2)) = ((l.map fun f => Value.agg (facC f)).zipIdx.map fun p => (p.2, p.1))) :
    (execOp (ev σ) ⟨dst, .buildSlice t len ps.toArray, ty, pos, aft, g⟩).run P w = .ok (.value (.slice (some ⟨w.heap.size, 0, none⟩) len len)) (w.alloc (.cells (l.flatMap facL).toArray e)) := by
  have h2 := run_mkL (P := P) (σ := σ) (w := w) (dst := dst) (ty := ty) (pos := pos) (aft := aft) (g := g) (vs := l.map fun f => Value.agg (facC f)) (sz := 67) hu hie hz hsz (by rw [List.length_map]; exact hl) hsmall hpos h (by
    rw [List.all_eq_true]; intro v hv
    rw [List.mem_map] at hv
    obtain ⟨r, _, rfl⟩ := hv
    simp [Value.cells, facL_len])
  have h3 : (l.map fun f => Value.agg (facC f)).flatMap (·.cells.toList) = l.flatMap facL := by
    rw [List.flatMap_map]; rfl
  rw [h3] at h2; exact h2
theorem run_mkShps {len : Nat} {ps : List (Nat × Operand)} {l : List Shp} {ie : TypeInfo} {z : Value}
    (hu : P.underlying t = some (.slice e)) (hie : P.info? e = some ie) (hz : ie.zero = some z) (hsz : ie.size = 2) (hl : l.length = len) (hsmall : ¬ len * 2 > 2 ^ 24) (hpos : ¬ len * 2 = 0)
    (h : ps.map (fun p => (p.1, ev σ p.2)) = ((l.map fun f => Value.agg (shpC f)).zipIdx.map fun p => (p.2, p.1))) :
    (execOp (ev σ) ⟨dst, .buildSlice t len ps.toArray, ty, pos, aft, g⟩).run P w = .ok (.value (.slice (some ⟨w.heap.size, 0, none⟩) len len)) (w.alloc (.cells (l.flatMap shpL).toArray e)) := by
  have h2 := run_mkL (P := P) (σ := σ) (w := w) (dst := dst) (ty := ty) (pos := pos) (aft := aft) (g := g) (vs := l.map fun f => Value.agg (shpC f)) (sz := 2) hu hie hz hsz (by rw [List.length_map]; exact hl) hsmall hpos h (by
    rw [List.all_eq_true]; intro v hv
    rw [List.mem_map] at hv
    obtain ⟨r, _, rfl⟩ := hv
    simp [Value.cells])
  have h3 : (l.map fun f => Value.agg (shpC f)).flatMap (·.cells.toList) = l.flatMap shpL := by
    rw [List.flatMap_map]; rfl
  rw [h3] at h2; exact h2
theorem Hp.slFlat {w0 w : World} {L : List Ent} {i b : Nat} {α : Type} {cl : α → List Value} {sz : Nat} {l : List α} {e : TypeId} (hsz : ∀ a, (cl a).length = sz) (h : Hp w0 w L) (hi : L[i]? = some (.blk b (.cells (l.flatMap cl).toArray e (0, 0)))) (hs : l.length ≤ maxLen) :
    Sl w (.slice (some ⟨b, 0, none⟩) l.length l.length) sz l.length (l.flatMap cl) := by
  have h2 := h.slBlk (n := l.length) (sz := sz) hi (by rw [List.size_toArray, flat_length hsz]) hs
  exact h2
def subV (v : Value) (sz i j : Nat) : Value :=
  match v with
  | .slice (some a) _ c => .slice (some ⟨a.block, a.off + i * sz, none⟩) (j - i) (c - i)
  | v => v
theorem Sl.part {v : Value} {sz n : Nat} {cells : List Value} (h : Sl w v sz n cells) {i j : Nat} (hij : i < j) (hj : j ≤ n) : Sl w (subV v sz i j) sz (j - i) ((cells.drop (i * sz)).take ((j - i) * sz)) := by
  obtain ⟨a, cap, hv, hnc, ha⟩ := h.shape
  have ha' := ha (by omega)
  subst ha'
  rw [hv] at ha ⊢
  have hb1 : sb v = sb (.slice (some ⟨sb v, so v, none⟩) n cap) := rfl
  refine ⟨⟨_, cap - i, rfl, by omega, fun _ => rfl⟩, ?_, fun k c hc => ?_, by have := h.small; omega⟩
  · have h1 : i * sz + (j - i) * sz ≤ n * sz := by
      rw [← Nat.add_mul]; exact Nat.mul_le_mul_right _ (by omega)
    rw [List.length_take, List.length_drop, h.len]; omega
  · rw [List.getElem?_take] at hc
    split at hc
    · rw [List.getElem?_drop] at hc
      have := h.cell _ _ hc
      show w.cell? ⟨sb v, so v + i * sz + k, none⟩ = some c
      rw [Nat.add_assoc]; exact this
    · cases hc
end runs
theorem Hp.zin0 {w0 w : World} {Z L : List Ent} (h : Hp w0 w (Z ++ L)) : Hp w0 w (L ++ Z) := h.perm List.perm_append_comm
theorem big_shp {s : Shp} (h : bigS s.sh = false) : s.facs.length ≤ 12 ∧ ∀ f ∈ s.facs, f.names.length ≤ 70 := by
  obtain ⟨h1, h2⟩ := big_spec h
  rw [sh_len] at h1
  exact ⟨h1, fun f hf => h2 f.fc (List.mem_map_of_mem hf)⟩
def exN1 : List Tx := [⟨#[97]⟩, ⟨#[98]⟩, ⟨#[99]⟩]
def exN2 : List Tx := [⟨#[120]⟩, ⟨#[121]⟩]
def exSh : Sh := ⟨true, [⟨1, exN1, Rl.none⟩, ⟨2, exN2, Rl.none⟩]⟩
end Go.Proofs.YtdfbimlpondblaaDoor.E
