/-
  The document's forests in memory, and calls on both.
-/
import Derived.Test.YtphknfjaellkjaaFor
namespace Go.Proofs.Ytphknfjaellkjaa.M
open Go
set_option linter.unusedVariables false
set_option linter.unusedSimpArgs false
structure OpR where
  kind : Int
  i : Int
  j : Int
def op0 : OpR := ⟨0, 0, 0⟩
def stepC (cs : List (List Nat)) (o : OpR) : List (List Nat) := if o.kind = 1 then (unionC cs o.i o.j).1 else if o.kind = 2 then (undoC cs o.i).1 else addC cs
def doB (cs as : List (List Nat)) (o : OpR) : Bool :=
  if o.kind = 1 then (unionC cs o.i o.j).2 == (unionC as o.i o.j).2 else if o.kind = 2 then (undoC cs o.i).2 == (undoC as o.i).2 else decide (((nowC cs).length : Int) = (nowC as).length)
end Go.Proofs.Ytphknfjaellkjaa.M
namespace Go.Proofs.Ytphknfjaellkjaa.E
open Go Go.RowKit Go.Proofs.Ytphknfjaellkjaa.M
set_option linter.unusedVariables false
set_option linter.unusedSimpArgs false
def opL (o : OpR) : List Value := [I o.kind, I o.i, I o.j]
structure Rw where
  v : Value
  l : List Nat
def rw0 : Rw := ⟨.slice none 0 0, []⟩
def rwI (l : List Nat) : List Int := l.map Int.ofNat
structure RFo where
  v : Value
  rs : List Rw
def IV (K : Vu) (v : Value) (l : List Nat) : Prop := SlV K v 1 (rwI l).length ((rwI l).map I)
structure FoV (K : Vu) (x : RFo) : Prop where
  sl0 : SlV K x.v 1 x.rs.length (x.rs.map Rw.v)
  each : ∀ r ∈ x.rs, SlV K r.v 1 (rwI r.l).length ((rwI r.l).map I)
  ne : 0 < x.rs.length
def RFo.cs (x : RFo) : List (List Nat) := (x.rs.map Rw.l).reverse
def nowR (x : RFo) : Rw := x.rs.getD (x.rs.length - 1) rw0
theorem Hp.zfront {w0 w : World} {A Zf R : List Ent} (h : Hp w0 w (A ++ (Zf ++ R))) : Hp w0 w (Zf ++ (A ++ R)) := h.perm (by
  rw [← List.append_assoc, ← List.append_assoc]
  exact List.perm_append_comm.append_right R)
theorem Hp.zback {w0 w : World} {A Zf R : List Ent} (h : Hp w0 w (Zf ++ (A ++ R))) : Hp w0 w (A ++ (Zf ++ R)) := h.perm (by
  rw [← List.append_assoc, ← List.append_assoc]
  exact List.perm_append_comm.append_right R)
section
variable {K K' : Vu} {x : RFo} {v : Value} {l : List Nat} {n : Nat} {xs : List Value}
theorem IV.mono (h : IV K v l) (hl : Le K K') : IV K' v l := SlV.mono h hl
theorem IV.of (h : SlV K v 1 n xs) (hn : n = l.length) (hx : xs = (rwI l).map I) : IV K v l := by
  subst hn hx; unfold IV; rw [show (rwI l).length = l.length by simp [rwI]]; exact h
theorem FoV.mono (h : FoV K x) (hl : Le K K') : FoV K' x := ⟨h.sl0.mono hl, fun r hr => (h.each r hr).mono hl, h.ne⟩
theorem FoV.at (h : FoV K x) {k : Int} (h0 : 0 ≤ k) (h1 : k < x.rs.length) : SlV K (x.rs.getD k.toNat rw0).v 1 (rwI (x.rs.getD k.toNat rw0).l).length ((rwI (x.rs.getD k.toNat rw0).l).map I) := h.each _ (List.mem_of_getElem? (getD_at (d := rw0) h0 h1))
theorem FoV.now (h : FoV K x) : SlV K (nowR x).v 1 (rwI (nowR x).l).length ((rwI (nowR x).l).map I) := by
  have := h.ne
  have := h.at (k := ((x.rs.length - 1 : Nat) : Int)) (by omega) (by omega)
  rwa [Int.toNat_natCast] at this
theorem FoV.small (h : FoV K x) : (rwI (nowR x).l).length ≤ 9223372036854775807 ∧ x.rs.length ≤ 9223372036854775807 := by
  have h1 := h.now.small; have h2 := h.sl0.small
  unfold maxLen at h1 h2; omega
theorem FoV.one (h : FoV K x) : ∀ u ∈ #[x.v], u.oneCell' = true := by
  have := (one_slice h.sl0).1
  simpa using this
def clsTo (l : List Nat) (i : Int) (k : Nat) : List Nat := (List.range k).filter fun q => findR l i == findR l q
end
end Go.Proofs.Ytphknfjaellkjaa.E
/-! ### What the laws hold -/
namespace Go.Proofs.Ytphknfjaellkjaa.E
open Go Go.RowKit Go.Proofs.Ytphknfjaellkjaa.M
set_option linter.unusedVariables false
set_option linter.unusedSimpArgs false
theorem Hp.nilZ {w0 w : World} {A Z : List Ent} (h : Hp w0 w (A ++ Z)) : Hp w0 w (A ++ (Z ++ [])) := by rw [List.append_nil]; exact h
theorem Hp.unZ {w0 w : World} {A Z : List Ent} (h : Hp w0 w (A ++ (Z ++ []))) : Hp w0 w (A ++ Z) := by rwa [List.append_nil] at h
theorem Hp.nilT {w0 w : World} {L : List Ent} (h : Hp w0 w L) : Hp w0 w (L ++ []) := by rw [List.append_nil]; exact h
theorem FoZ.small {T : FTy} {F m : Nat} {cs : List (List Nat)} {Z : List Ent} (h : FoZ T F m cs Z) : (nowC cs).length ≤ m ∧ cs.length ≤ m + 1 ∧ 0 < cs.length ∧ (metF (nowC cs)).length = leads (nowC cs) ∧ leads (nowC cs) ≤ m := by
  obtain ⟨vW, vU, vT, cW, cU, W, ul, tn, Lb, rfl, i⟩ := h
  obtain ⟨nd, cl, cs0, rfl, rfl, h2, h3, h4, h5, h6⟩ := i.now
  have := i.lt
  exact ⟨h4, by omega, by simp, count_is h2, h6⟩
def StP (T : FTy) (F m : Nat) (K : Vu) (cs : List (List Nat)) (x : RFo) (Z : List Ent) : Prop := ∃ Zf Zv, Z = Zf ++ Zv ∧ FoZ T F m cs Zf ∧ FoV (Kz K Zv) x ∧ x.cs = cs
def StF (T : FTy) (F m : Nat) (cs : List (List Nat)) (Z : List Ent) : Prop := ∃ Zf Zv, Z = Zf ++ Zv ∧ FoZ T F m cs Zf
end Go.Proofs.Ytphknfjaellkjaa.E
namespace Go.Proofs.Ytphknfjaellkjaa.M
open Go
set_option linter.unusedVariables false
set_option linter.unusedSimpArgs false
def fdTo (cl : List Nat) (k : Nat) : List Int := (List.range k).map fun (q : Nat) => findR cl (q : Int)
end Go.Proofs.Ytphknfjaellkjaa.M
