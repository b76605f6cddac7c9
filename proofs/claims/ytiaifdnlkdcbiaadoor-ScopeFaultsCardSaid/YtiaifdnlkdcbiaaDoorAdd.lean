/-
  Scopes, plainly: what is added, and when a scope is right.
-/
import Derived.Test.YtiaifdnlkdcbiaaDoorFlt
namespace Go.Proofs.YtiaifdnlkdcbiaaDoor.E
open Go Go.RowKit Go.Proofs.YtiaifdnlkdcbiaaDoor.M
set_option linter.unusedVariables false
/-- A scope, plainly. -/
structure Sc where
  lats : List (Tx × Sh)
  vars : List VarR
def LatR.pl (l : LatR) : Tx × Sh := (l.name, l.shp.sh)
def Scp.sc (s : Scp) : Sc := ⟨s.lats.map LatR.pl, s.vars⟩
def kindF (c : CmdR) : Int := if c.op = 7 then 2 else 1
def varsF (s : Scp) (c : CmdR) : List VarR := c.names.map fun x => ⟨x.text, kindF c, findLat s c.name.text⟩
def addF (s : Scp) (c : CmdR) : Sc :=
  if (faultF s c).cls ≠ 0 then s.sc else if 1 ≤ c.op ∧ c.op ≤ 5 then ⟨s.sc.lats ++ [(c.name.text, shapeF s c)], s.vars⟩
  else if c.op = 6 ∨ c.op = 7 then ⟨s.sc.lats, s.vars ++ varsF s c⟩ else s.sc
section
variable {s : Scp} {c : CmdR}
theorem add_0 (h : (faultF s c).cls ≠ 0) : addF s c = s.sc := if_pos h
theorem add_1 (h : ¬ (faultF s c).cls ≠ 0) (h1 : 1 ≤ c.op ∧ c.op ≤ 5) : addF s c = ⟨s.sc.lats ++ [(c.name.text, shapeF s c)], s.vars⟩ := by rw [addF, if_neg h, if_pos h1]
theorem add_2 (h : ¬ (faultF s c).cls ≠ 0) (h1 : c.op = 6 ∨ c.op = 7) : addF s c = ⟨s.sc.lats, s.vars ++ varsF s c⟩ := by rw [addF, if_neg h, if_neg (by omega), if_pos h1]
theorem add_3 (h1 : ¬ (1 ≤ c.op ∧ c.op ≤ 5)) (h2 : ¬ (c.op = 6 ∨ c.op = 7)) : addF s c = s.sc := by
  rw [addF, if_neg h1, if_neg h2]; split <;> rfl
theorem vars_next {k : Int} (h0 : 0 ≤ k) (h1 : k < c.names.length) : (varsF s c).take (k + 1).toNat = (varsF s c).take k.toNat ++ [⟨(c.names.getD k.toNat wd0).text, kindF c, findLat s c.name.text⟩] := by
  have h2 : k.toNat < c.names.length := by omega
  rw [show (k + 1).toNat = k.toNat + 1 by omega, List.take_add_one, varsF, List.getElem?_map, List.getD_eq_getElem?_getD, List.getElem?_eq_getElem h2]; rfl
theorem varsF_len : (varsF s c).length = c.names.length := by simp [varsF]
end
theorem lats_next {l : List LatR} {k : Int} (h0 : 0 ≤ k) (h1 : k < l.length) : (l.take (k + 1).toNat).map LatR.pl = (l.take k.toNat).map LatR.pl ++ [(l.getD k.toNat lat0).pl] := by
  have h2 : k.toNat < l.length := by omega
  rw [show (k + 1).toNat = k.toNat + 1 by omega, List.take_add_one, List.map_append, List.getD_eq_getElem?_getD, List.getElem?_eq_getElem h2]; rfl
theorem vars_one (l : List VarR) : ∀ u ∈ l.flatMap varL, u.oneCell' = true := fun u hu => by
  rw [List.mem_flatMap] at hu
  obtain ⟨f, hf, hu⟩ := hu
  simp [varL] at hu
  rcases hu with rfl | rfl | rfl <;> rfl
structure LatsV (K : Vu) (l : List LatR) : Prop where
  each : ∀ a ∈ l, ShpV K a.shp
theorem LatsV.mono {K K' : Vu} {l : List LatR} (h : LatsV K l) (hl : Le K K') : LatsV K' l := ⟨fun a ha => (h.each a ha).mono hl⟩
theorem LatsV.nil (K : Vu) : LatsV K [] := ⟨fun a ha => by cases ha⟩
theorem LatsV.snoc {K : Vu} {l : List LatR} {a : LatR} (h : LatsV K l) (ha : ShpV K a.shp) : LatsV K (l ++ [a]) := ⟨fun x hx => by
  rcases List.mem_append.1 hx with hx | hx
  · exact h.each x hx
  · rw [List.mem_singleton.1 hx]; exact ha⟩
theorem lats_one {K : Vu} {l : List LatR} (h : LatsV K l) : ∀ u ∈ l.flatMap latL, u.oneCell' = true := fun u hu => by
  rw [List.mem_flatMap] at hu
  obtain ⟨f, hf, hu⟩ := hu
  exact latL_one (h.each f hf) u (by simpa using hu)
theorem ScpV.lts {K : Vu} {s : Scp} (h : ScpV K s) : LatsV K s.lats := ⟨h.each⟩
theorem lats1_one {K : Vu} {t : Tx} {p : Shp} (h : ShpV K p) : ∀ u ∈ [(⟨t, p⟩ : LatR)].flatMap latL, u.oneCell' = true := lats_one ⟨fun a ha => by rw [List.mem_singleton.1 ha]; exact h⟩
theorem one_2 {v u : Value} (h1 : v.oneCell' = true) (h2 : u.oneCell' = true) : ∀ x ∈ #[v, u], x.oneCell' = true := by
  intro x hx; simp at hx; rcases hx with rfl | rfl
  · exact h1
  · exact h2
theorem Hp.zin2 {w0 w : World} {a b : Ent} {Z L L' : List Ent} (h : Hp w0 w (a :: b :: (Z ++ (L ++ L')))) : Hp w0 w (a :: b :: (L ++ (Z ++ L'))) := h.perm (by
  refine List.Perm.cons _ (List.Perm.cons _ ?_)
  rw [← List.append_assoc, ← List.append_assoc]
  exact (List.perm_append_comm).append_right L')
/-- What a copy of a scope comes to: two rows of its own, over frozen shapes. -/
def Rows2 (K : Vu) (tl tv : TypeId) (sc : Sc) (w : World) (u : Value) (w' : World) : Prop :=
  ∃ (v0 : Value) (ls : List LatR) (v1 : Value) (Z : List Ent), u = .agg #[v0, v1] ∧ Hp w w' (.row v0 tl 3 ls.length (ls.flatMap latL) :: .row v1 tv 3 sc.vars.length (sc.vars.flatMap varL) :: Z) ∧ LatsV (Kz K Z) ls ∧ ls.map LatR.pl = sc.lats
/-- The same lattices and variables? -/
def sameSc (a b : Sc) : Bool := decide (a.lats.length = b.lats.length) && (upto a.lats.length).all (fun i => decide ((a.lats.getD i.toNat (tx0, ⟨false, []⟩)).1 = (b.lats.getD i.toNat (tx0, ⟨false, []⟩)).1) && sameS (a.lats.getD i.toNat (tx0, ⟨false, []⟩)).2 (b.lats.getD i.toNat (tx0, ⟨false, []⟩)).2) && decide (a.vars = b.vars)
end Go.Proofs.YtiaifdnlkdcbiaaDoor.E
