/-
  What a declaration comes to, plainly: its relation, its shape, its faults.
-/
import Derived.Test.YtiaifdnlkdcbiaaDoorScq
namespace Go.Proofs.YtiaifdnlkdcbiaaDoor.E
open Go Go.RowKit Go.Proofs.YtiaifdnlkdcbiaaDoor.M
set_option linter.unusedVariables false
theorem texts_len (l : List Wd) : (textsF l).length = l.length := by simp [textsF]
theorem nfind_bd (l : List Tx) (t : Tx) : -1 ≤ nfind l t ∧ nfind l t < l.length ∨ nfind l t = -1 := by
  rw [nfind]
  exact find_lt (by omega)
def wpair (l : List Tx) (p : Pw) : Int × Int := (nfind l p.1.text, nfind l p.2.text)
def wpairs (c : CmdR) : List (Int × Int) := c.pairs.map (wpair (textsF c.names))
def relatedF (c : CmdR) : Rl := cloR (ofR c.names.length (wpairs c))
theorem wp_next {l : List Pw} {f : Pw → Int × Int} {k : Int} (h0 : 0 ≤ k) (h1 : k < l.length) : (l.take (k + 1).toNat).map f = (l.take k.toNat).map f ++ [f (l.getD k.toNat pw0)] := by
  have h2 : k.toNat < l.length := by omega
  rw [show (k + 1).toNat = k.toNat + 1 by omega, List.take_add_one, List.map_append, List.getD_eq_getElem?_getD, List.getElem?_eq_getElem h2]
  rfl
theorem addP_n (r : Rl) (p : Int × Int) : (addP r p).n = r.n := by
  rw [addP]; split <;> rfl
theorem adds_n (l : List (Int × Int)) : ∀ r : Rl, (l.foldl addP r).n = r.n := by
  induction l with
  | nil => exact fun r => rfl
  | cons a l ih => exact fun r => by rw [List.foldl_cons, ih, addP_n]
theorem clo_congr {a b : Rl} (h1 : pts a = pts b) (h2 : a.up = b.up) : cloR a = cloR b := by
  have h3 : (plainR a).up = (plainR b).up := by
    funext i
    show (if (i : Int) < pts a then rowR a i else 0#64) = (if (i : Int) < pts b then rowR b i else 0#64)
    rw [rowR, rowR, h1, h2]
  rw [cloR, cloR, h1, h3]
theorem pts_of (n : Int) (l : List (Int × Int)) : pts (ofR n l) = pts ⟨n, fun _ => 0#64⟩ := by
  rw [pts, ofR, adds_n]
  show max 0 (min (pts ⟨n, fun _ => 0#64⟩) 64) = _
  unfold pts; simp only []; omega
/-- The reference's relation, step by step: the same rows, all points. -/
def refU (n : Int) (l : List (Int × Int)) : Rl := ⟨n, (l.foldl addP (newR n)).up⟩
theorem isP_of {n : Int} {l : List (Int × Int)} {a : Int} (h : 0 ≤ a ∧ a < n ∧ a < 64) : isP (l.foldl addP (newR n)) a = true := isP_iff.2 (by
  have := pts_of n l
  rw [ofR] at this
  rw [this]; unfold pts; simp only []; omega)
theorem isP_not {n : Int} {l : List (Int × Int)} {a : Int} (h : ¬ (0 ≤ a ∧ a < 64)) : isP (l.foldl addP (newR n)) a = false := by
  cases hc : isP (l.foldl addP (newR n)) a with
  | false => rfl
  | true => exact absurd (isP_lt hc) (fun h' => h (by omega))
theorem refU_yes {n : Int} {l : List (Int × Int)} {a b : Int} {r : Rl} (hr : r = refU n l) (ha : 0 ≤ a ∧ a < n) (hb : 0 ≤ b ∧ b < n) (ha2 : a < 64) (hb2 : b < 64) : r.put a.toNat (r.up a.toNat ||| 1#64 <<< (BitVec.ofInt 64 b).toNat) = refU n (l ++ [(a, b)]) := by
  subst hr
  have h : (l ++ [(a, b)]).foldl addP (newR n) = (l.foldl addP (newR n)).put a.toNat (withB ((l.foldl addP (newR n)).up a.toNat) b) := by
    rw [List.foldl_append]; exact addP_yes (isP_of ⟨ha.1, ha.2, ha2⟩) (isP_of ⟨hb.1, hb.2, hb2⟩)
  rw [refU, refU, h, withB, if_pos (by unfold inB; simp; omega)]; rfl
theorem refU_no {n : Int} {l : List (Int × Int)} {a b : Int} {r : Rl} (hr : r = refU n l) (h : ¬ ((0 ≤ a ∧ a < 64) ∧ (0 ≤ b ∧ b < 64))) : r = refU n (l ++ [(a, b)]) := by
  subst hr
  have h : (l ++ [(a, b)]).foldl addP (newR n) = l.foldl addP (newR n) := by
    rw [List.foldl_append]
    show addP _ (a, b) = _
    by_cases h1 : 0 ≤ a ∧ a < 64
    · exact addP_no2 (isP_not fun h2 => h ⟨h1, h2⟩)
    · exact addP_no1 (isP_not h1)
  rw [refU, refU, h]
theorem refU_clo (n : Int) (l : List (Int × Int)) : cloR (refU n l) = cloR (ofR n l) := clo_congr (by
  rw [pts_of]; rfl) rfl
theorem prodF_app (l m : List Shp) : prodF (l ++ m) = prodF l ++ prodF m := by simp [prodF]
theorem prodF_one (p : Shp) : prodF [p] = p.facs.map Fac.fc := by simp [prodF, Shp.sh]
/-- What a scope and a command hold at most. -/
structure Sm (s : Scp) (c : CmdR) : Prop where
  nl : c.names.length ≤ 100
  pl : c.pairs.length ≤ 100
  ll : s.lats.length ≤ 20
  vl : s.vars.length ≤ 80
  fn : ∀ a ∈ s.lats, a.shp.facs.length ≤ 100
  nn : ∀ a ∈ s.lats, ∀ f ∈ a.shp.facs, f.names.length ≤ 100
def shapeF (s : Scp) (c : CmdR) : Sh :=
  if c.op = 1 then ⟨false, [⟨1, textsF c.names, Rl.none⟩]⟩ else if c.op = 2 then ⟨false, [⟨2, textsF c.names, Rl.none⟩]⟩
  else if c.op = 4 then ⟨false, [⟨3, textsF c.names, relatedF c⟩]⟩ else if c.op = 5 then ⟨false, [⟨4, textsF c.names, relatedF c⟩]⟩
  else if c.op = 3 then ⟨true, prodF (prodL s c.names)⟩ else ⟨false, []⟩
section
variable {s : Scp} {c : CmdR}
theorem shape_1 (h : c.op = 1) : shapeF s c = ⟨false, [⟨1, textsF c.names, Rl.none⟩]⟩ := if_pos h
theorem shape_2 (h : c.op = 2) : shapeF s c = ⟨false, [⟨2, textsF c.names, Rl.none⟩]⟩ := by rw [shapeF, if_neg (by omega), if_pos h]
theorem shape_4 (h : c.op = 4) : shapeF s c = ⟨false, [⟨3, textsF c.names, relatedF c⟩]⟩ := by rw [shapeF, if_neg (by omega), if_neg (by omega), if_pos h]
theorem shape_5 (h : c.op = 5) : shapeF s c = ⟨false, [⟨4, textsF c.names, relatedF c⟩]⟩ := by rw [shapeF, if_neg (by omega), if_neg (by omega), if_neg (by omega), if_pos h]
theorem shape_3 (h : c.op = 3) : shapeF s c = ⟨true, prodF (prodL s c.names)⟩ := by rw [shapeF, if_neg (by omega), if_neg (by omega), if_neg (by omega), if_neg (by omega), if_pos h]
theorem shape_0 (h1 : ¬ c.op = 1) (h2 : ¬ c.op = 2) (h4 : ¬ c.op = 4) (h5 : ¬ c.op = 5) (h3 : ¬ c.op = 3) : shapeF s c = ⟨false, []⟩ := by rw [shapeF, if_neg h1, if_neg h2, if_neg h4, if_neg h5, if_neg h3]
end
theorem facC_set0 (f : Fac) (k : Int) : (facC f).setIfInBounds 0 (I k) = facC { f with kind := k } := by simp [facL]
theorem fac_one {f : Fac} {v : Value} (hv : v.oneCell' = true) (h : f.nv = v) : ∀ u ∈ facL f, u.oneCell' = true := by
  intro u hu
  rw [facL, List.mem_cons, List.mem_cons] at hu
  rcases hu with rfl | rfl | hu
  · rfl
  · rw [h]; exact hv
  · exact relC_one f.rel u (by rw [relC_def]; simpa using hu)
theorem FacV.set {K : Vu} {f : Fac} (h : FacV K f) (k : Int) (r : Rl) : FacV K ⟨k, f.nv, f.names, r⟩ := ⟨h.names⟩
section
variable {P : Program} {σ : Env} {w : World} {dst : Option Tmp} {ty t u e : TypeId} {pos : String} {aft : Array Edge} {g : Option (Nat × Bool)} {x y : Operand} {b : Nat}
/-- A factor's relation is written. -/
theorem run_stFacR {f : Fac} {r : Rl} (hi : (P.info? t).map (·.size) = some 65) (hx : ev σ x = .pointer (some ⟨b, 0 + 2, none⟩)) (hy : ev σ y = .agg (relC r)) (hg : w.heap[b]? = some (.cells (facC f) e (0, 0))) :
    (execOp (ev σ) ⟨dst, .store t x y, ty, pos, aft, g⟩).run P w = .ok .skip (w.setRow b (facC { f with rel := r })) := by
  rw [relC_def] at hy
  refine run_stSub (sub := relL r) (c' := facL { f with rel := r }) (by rw [relL_len]; exact hi) hx hy (fun u hu => relC_one r u (by rw [relC_def]; simpa using hu)) hg (by rw [relL_len, List.size_toArray, facL_len]; decide) ?_
  rw [relL_len]
  have h1 : (relL f.rel).drop 65 = [] := List.drop_eq_nil_of_le (by rw [relL_len]; exact Nat.le_refl _)
  simp [facL, h1]
end
theorem ShpV.none (K : Vu) : ShpV K ⟨false, .slice none 0 0, []⟩ := ⟨SlV.nil _ _, fun f hf => by cases hf⟩
end Go.Proofs.YtiaifdnlkdcbiaaDoor.E
