/-
  Cuts: what a part of the code comes to is said once, however many orders it may be taken in.
-/
import Derived.Test.YtphknfjaellkjaaShq
namespace Go.Proofs.Ytphknfjaellkjaa.E
open Go Go.RowKit Go.Proofs.Ytphknfjaellkjaa.M
set_option linter.unusedVariables false
def shpL (s : Shp) : List Value := [B s.tuple, s.fv]
def shp0 : Shp := ⟨false, .slice none 0 0, []⟩
structure ShpsV (K : Vu) (l : List Shp) : Prop where
  each : ∀ s ∈ l, ShpV K s
theorem ShpsV.at {K : Vu} {l : List Shp} (h : ShpsV K l) {k : Int} (h0 : 0 ≤ k) (h1 : k < l.length) : ShpV K (l.getD k.toNat shp0) := h.each _ (List.mem_of_getElem? (getD_at (d := shp0) h0 h1))
theorem ShpsV.mono {K K' : Vu} {l : List Shp} (h : ShpsV K l) (hl : Le K K') : ShpsV K' l := ⟨fun s hs => (h.each s hs).mono hl⟩
structure FacsV (K : Vu) (l : List Fac) : Prop where
  each : ∀ f ∈ l, FacV K f
theorem FacsV.mono {K K' : Vu} {l : List Fac} (h : FacsV K l) (hl : Le K K') : FacsV K' l := ⟨fun s hs => (h.each s hs).mono hl⟩
theorem FacsV.nil (K : Vu) : FacsV K [] := ⟨fun f hf => by simp at hf⟩
theorem FacsV.app {K : Vu} {l m : List Fac} (h : FacsV K l) (hf : FacsV K m) : FacsV K (l ++ m) := ⟨fun x hx => by
  rcases List.mem_append.1 hx with hx | hx
  · exact h.each x hx
  · exact hf.each x hx⟩
theorem FacsV.at {K : Vu} {l : List Fac} (h : FacsV K l) {k : Int} (h0 : 0 ≤ k) (h1 : k < l.length) : FacV K (l.getD k.toNat fac0) := h.each _ (List.mem_of_getElem? (getD_at (d := fac0) h0 h1))
def prodF (l : List Shp) : List Fc := l.flatMap fun s => s.sh.facs
section runs
variable {P : Program} {σ : Env} {w : World} {dst : Option Tmp} {ty t u e : TypeId} {pos : String} {aft : Array Edge} {g : Option (Nat × Bool)} {x y : Operand} {b : Nat} {fr : Nat × Nat}
def subV (v : Value) (sz i j : Nat) : Value :=
  match v with
  | .slice (some a) _ c => .slice (some ⟨a.block, a.off + i * sz, none⟩) (j - i) (c - i)
  | v => v
theorem Sl.part {v : Value} {sz n : Nat} {cells : List Value} (h : Sl w v sz n cells) {i j : Nat} (hij : i < j) (hj : j ≤ n) : Sl w (subV v sz i j) sz (j - i) ((cells.drop (i * sz)).take ((j - i) * sz)) := by
  obtain ⟨a, cap, hv, hnc, ha⟩ := h.shape
  have ha' := ha (by omega)
  subst ha'
  rw [hv] at ha ⊢
  have hb1 : sb v = sb (.slice (some ⟨sb v, so v, none⟩) n cap) := rfl
  refine ⟨⟨_, cap - i, rfl, by omega, fun _ => rfl⟩, ?_, fun k c hc => ?_, by have := h.small; omega⟩
  · have h1 : i * sz + (j - i) * sz ≤ n * sz := by
      rw [← Nat.add_mul]; exact Nat.mul_le_mul_right _ (by omega)
    rw [List.length_take, List.length_drop, h.len]; omega
  · rw [List.getElem?_take] at hc
    split at hc
    · rw [List.getElem?_drop] at hc
      have := h.cell _ _ hc
      show w.cell? ⟨sb v, so v + i * sz + k, none⟩ = some c
      rw [Nat.add_assoc]; exact this
    · cases hc
end runs
def exN1 : List Tx := [⟨#[97]⟩, ⟨#[98]⟩, ⟨#[99]⟩]
def exN2 : List Tx := [⟨#[120]⟩, ⟨#[121]⟩]
def exSh : Sh := ⟨true, [⟨1, exN1, Rl.none⟩, ⟨2, exN2, Rl.none⟩]⟩
end Go.Proofs.Ytphknfjaellkjaa.E
namespace Go.Proofs.Ytphknfjaellkjaa.E
open Go Go.RowKit Go.Proofs.Ytphknfjaellkjaa.M
set_option linter.unusedVariables false
end Go.Proofs.Ytphknfjaellkjaa.E
