/-
  Constants of shapes, plainly: which element a node is, and which node an element.
-/
import Derived.Test.YtieckcbckgalhaaGreatDoorNod
namespace Go.Proofs.YtieckcbckgalhaaGreatDoor.E
open Go Go.RowKit Go.Proofs.YtieckcbckgalhaaGreatDoor.M
set_option linter.unusedVariables false
abbrev Ex (α : Type) := Except Int α
/-- The set of the places of words, from a set on; or where one is none. -/
def gotP (l : List Tx) : List Wd → BitVec 64 → Ex (BitVec 64)
  | [], s => .ok s
  | x :: w, s => if nfind l x.text < 0 then .error x.place else gotP l w (withB s (nfind l x.text))
def placesG (l : List Tx) (w : List Wd) : Ex (BitVec 64) := gotP l w 0#64
def rulesG (f : Fc) : List Nd → BitVec 64 → Ex (BitVec 64)
  | [], w => .ok w
  | k :: ks, w => if nfind f.names k.text < 0 then .error k.place else
    match placesG f.names k.names with
    | .error a => .error a
    | .ok s => rulesG f ks (w ||| ruleG f.rel (nfind f.names k.text) s)
def kindN (f : Fc) : Int := if f.kind = 2 then 3 else if f.kind = 3 then 5 else 2
def pointG (f : Fc) (n : Nd) : Ex (BitVec 64) :=
  if nfind f.names n.text < 0 then .error n.place
  else if f.kind = 4 then .ok (belowR f.rel (nfind f.names n.text))
  else .ok (wordv f.names.length (nfind f.names n.text)).1
def wordG (f : Fc) (n : Nd) : Ex (BitVec 64) :=
  if n.kind ≠ kindN f then .error n.place
  else if f.kind = 2 then placesG f.names n.names
  else if f.kind = 3 then rulesG f n.kids 0#64
  else pointG f n
/-- The words of factors, from a place on. -/
def elemL : List (Fc × Nd) → Nat → El → Ex El
  | [], _, e => .ok e
  | (f, n) :: r, i, e => match wordG f n with
    | .error a => .error a
    | .ok w => elemL r (i + 1) (putE e i w)
def partsF (s : Sh) (n : Nd) : List Nd := if s.tuple then n.kids else [n]
def fitN (s : Sh) (n : Nd) : Bool := shR s && constB n && (!s.tuple || decide (n.kind = 4 ∧ n.kids.length = s.facs.length))
def elemG (s : Sh) (n : Nd) : Ex El := if fitN s n then elemL (s.facs.zip (partsF s n)) 0 el0 else .error n.place
def resE : Ex El → El × Flt
  | .ok e => (e, flt0)
  | .error a => (el0, ⟨4, a⟩)
theorem drop_at {α : Type} {l : List α} {d : α} {k : Int} (h0 : 0 ≤ k) (h1 : k < l.length) : l.drop k.toNat = l.getD k.toNat d :: l.drop (k + 1).toNat := by
  have h2 : k.toNat < l.length := by omega
  rw [show (k + 1).toNat = k.toNat + 1 by omega, List.drop_eq_getElem_cons h2, List.getD_eq_getElem?_getD, List.getElem?_eq_getElem h2]; rfl
theorem drop_end {α : Type} {l : List α} {k : Int} (h : ¬ k < l.length) : l.drop k.toNat = [] := List.drop_eq_nil_of_le (by omega)
/-! ### A reader: whether it failed, and where first -/
abbrev RS := Bool × Int
def failF (s : RS) (a : Int) : RS := if s.1 then s else (true, a)
theorem fail_fail (s : RS) (a b : Int) : failF (failF s a) b = failF s a := by
  by_cases h : s.1 = true
  · simp [failF, h]
  · simp [failF, h]
theorem fail_t {s : RS} {a : Int} (h : s.1 = true) : failF s a = s := by rw [failF, if_pos h]
theorem fail_f {s : RS} {a : Int} (h : s.1 = false) : failF s a = (true, a) := by rw [failF, h]; rfl
def okR (x : Ex (BitVec 64)) (s : RS) (y : BitVec 64) (s' : RS) : Prop := match x with
  | .ok z => y = z ∧ s' = s
  | .error a => s' = failF s a
theorem got_no {l : List Tx} {ws : List Wd} {k : Int} {m s : BitVec 64} (h0 : 0 ≤ k) (h1 : k < ws.length) (hm : gotP l ws s = gotP l (ws.drop k.toNat) m) (h : nfind l (ws.getD k.toNat wd0).text < 0) : gotP l ws s = .error (ws.getD k.toNat wd0).place := by
  rw [hm, drop_at (d := wd0) h0 h1, gotP, if_pos h]
theorem got_next {l : List Tx} {ws : List Wd} {k : Int} {m s : BitVec 64} (h0 : 0 ≤ k) (h1 : k < ws.length) (hm : gotP l ws s = gotP l (ws.drop k.toNat) m) (h : ¬ nfind l (ws.getD k.toNat wd0).text < 0) :
    gotP l ws s = gotP l (ws.drop (k + 1).toNat) (withB m (nfind l (ws.getD k.toNat wd0).text)) := by
  rw [hm, drop_at (d := wd0) h0 h1, gotP, if_neg h]
theorem got_end {l : List Tx} {ws : List Wd} {k : Int} {m s : BitVec 64} (h : ¬ k < ws.length) (hm : gotP l ws s = gotP l (ws.drop k.toNat) m) : gotP l ws s = .ok m := by rw [hm, drop_end h]; rfl
theorem ok_err {x : Ex (BitVec 64)} {s : RS} {y : BitVec 64} {a : Int} (h : x = .error a) : okR x s y (failF s a) := by subst h; rfl
theorem ok_ok {x : Ex (BitVec 64)} {s : RS} {y : BitVec 64} (h : x = .ok y) : okR x s y s := by subst h; exact ⟨rfl, rfl⟩
theorem point_no {f : Fc} {n : Nd} (h : nfind f.names n.text < 0) : pointG f n = .error n.place := by rw [pointG, if_pos h]
theorem point_4 {f : Fc} {n : Nd} (h : ¬ nfind f.names n.text < 0) (h4 : f.kind = 4) : pointG f n = .ok (belowR f.rel (nfind f.names n.text)) := by rw [pointG, if_neg h, if_pos h4]
theorem point_1 {f : Fc} {n : Nd} (h : ¬ nfind f.names n.text < 0) (h4 : ¬ f.kind = 4) : pointG f n = .ok (wordv f.names.length (nfind f.names n.text)).1 := by rw [pointG, if_neg h, if_neg h4]
theorem pt_no {f : Fac} {n : NodeR} {s : RS} {y : BitVec 64} (h : nfind f.names n.text < 0) : okR (pointG f.fc n.nd) s y (failF s n.place) := by
  have e : pointG f.fc n.nd = .error n.nd.place := point_no (by rw [nd_text]; exact h)
  rw [nd_place] at e; exact ok_err e
theorem pt_4 {f : Fac} {n : NodeR} {s : RS} (h : ¬ nfind f.names n.text < 0) (h4 : f.kind = 4) : okR (pointG f.fc n.nd) s (belowR f.rel (nfind f.names n.text)) s := by
  have e : pointG f.fc n.nd = .ok (belowR f.rel (nfind f.names n.nd.text)) := point_4 (by rw [nd_text]; exact h) h4
  rw [nd_text] at e; exact ok_ok e
theorem pt_1 {f : Fac} {n : NodeR} {s : RS} (h : ¬ nfind f.names n.text < 0) (h4 : ¬ f.kind = 4) : okR (pointG f.fc n.nd) s (wordv f.names.length (nfind f.names n.text)).1 s := by
  have e : pointG f.fc n.nd = .ok (wordv f.names.length (nfind f.names n.nd.text)).1 := point_1 (by rw [nd_text]; exact h) h4
  rw [nd_text] at e; exact ok_ok e
def RInv (f : Fc) (ks : List Nd) (k : Int) (m : BitVec 64) (s s1 : RS) : Prop :=
  (s1 = s ∧ rulesG f ks 0#64 = rulesG f (ks.drop k.toNat) m) ∨ ∃ a, rulesG f ks 0#64 = .error a ∧ s1 = failF s a
theorem ri_0 {f : Fc} {ks : List Nd} {s : RS} : RInv f ks 0 0#64 s s := .inl ⟨rfl, rfl⟩
theorem ri_at {n : NodeR} {k : Int} (h0 : 0 ≤ k) (h1 : k < n.kids.length) : n.nd.kids.drop k.toNat = (n.kids.getD k.toNat node0).nd :: n.nd.kids.drop (k + 1).toNat := by
  rw [drop_at (d := nd0) h0 (by rw [nd_len]; exact h1), nd_get n h0 h1]
theorem ri_no {f : Fac} {n : NodeR} {k : Int} {m y : BitVec 64} {s s1 : RS} (h0 : 0 ≤ k) (h1 : k < n.kids.length) (hm : RInv f.fc n.nd.kids k m s s1)
    (h : nfind f.names (n.kids.getD k.toNat node0).text < 0) : okR (rulesG f.fc n.nd.kids 0#64) s y (failF s1 (n.kids.getD k.toNat node0).place) := by
  rcases hm with ⟨rfl, e⟩ | ⟨a, e, rfl⟩
  · rw [ri_at h0 h1, rulesG, nd_text, if_pos (c := nfind f.fc.names (n.kids.getD k.toNat node0).text < 0) h, nd_place] at e; exact ok_err e
  · rw [fail_fail]; exact ok_err e
theorem ri_next {f : Fac} {n : NodeR} {k : Int} {m y : BitVec 64} {s s1 s2 : RS} (h0 : 0 ≤ k) (h1 : k < n.kids.length) (hm : RInv f.fc n.nd.kids k m s s1)
    (h : ¬ nfind f.names (n.kids.getD k.toNat node0).text < 0) (e2 : okR (placesG f.names (n.kids.getD k.toNat node0).names) s1 y s2) :
    RInv f.fc n.nd.kids (k + 1) (m ||| ruleG f.rel (nfind f.names (n.kids.getD k.toNat node0).text) y) s s2 := by
  rcases hm with ⟨rfl, e⟩ | ⟨a, e, rfl⟩
  · rw [ri_at h0 h1, rulesG, nd_text, if_neg (c := nfind f.fc.names (n.kids.getD k.toNat node0).text < 0) h, nd_names, show f.fc.names = f.names from rfl] at e
    cases hp : placesG f.names (n.kids.getD k.toNat node0).names with
    | ok z =>
      rw [hp] at e2; obtain ⟨rfl, rfl⟩ := e2
      refine .inl ⟨rfl, ?_⟩
      rw [e, hp]; rfl
    | error a =>
      rw [hp] at e2; refine .inr ⟨a, ?_, e2⟩
      rw [e, hp]
  · cases hp : placesG f.names (n.kids.getD k.toNat node0).names with
    | ok z => rw [hp] at e2; obtain ⟨rfl, rfl⟩ := e2; exact .inr ⟨a, e, rfl⟩
    | error b => rw [hp] at e2; exact .inr ⟨a, e, e2.trans (fail_fail s a b)⟩
theorem ri_end {f : Fac} {n : NodeR} {k : Int} {m : BitVec 64} {s s1 : RS} (h1 : ¬ k < n.kids.length) (hm : RInv f.fc n.nd.kids k m s s1) : okR (rulesG f.fc n.nd.kids 0#64) s m s1 := by
  rcases hm with ⟨rfl, e⟩ | ⟨a, e, rfl⟩
  · rw [drop_end (by rw [nd_len]; exact h1)] at e; exact ok_ok e
  · exact ok_err e
theorem wd_no {f : Fac} {n : NodeR} {s : RS} {y : BitVec 64} (h : ¬ n.kind = kindN f.fc) : okR (wordG f.fc n.nd) s y (failF s n.place) := by
  have e : wordG f.fc n.nd = .error n.nd.place := by rw [wordG, nd_kind, if_pos h]
  rw [nd_place] at e; exact ok_err e
theorem wd_2 {f : Fac} {n : NodeR} {s s' : RS} {y : BitVec 64} (h : ¬ ¬ n.kind = kindN f.fc) (h2 : f.kind = 2) (e : okR (placesG f.names n.names) s y s') : okR (wordG f.fc n.nd) s y s' := by
  rw [wordG, nd_kind, if_neg h, if_pos (c := f.fc.kind = 2) h2, nd_names]; exact e
theorem wd_3 {f : Fac} {n : NodeR} {s s' : RS} {y : BitVec 64} (h : ¬ ¬ n.kind = kindN f.fc) (h2 : ¬ f.kind = 2) (h3 : f.kind = 3) (e : okR (rulesG f.fc n.nd.kids 0#64) s y s') : okR (wordG f.fc n.nd) s y s' := by
  rw [wordG, nd_kind, if_neg h, if_neg (c := f.fc.kind = 2) h2, if_pos (c := f.fc.kind = 3) h3]; exact e
theorem wd_1 {f : Fac} {n : NodeR} {s s' : RS} {y : BitVec 64} (h : ¬ ¬ n.kind = kindN f.fc) (h2 : ¬ f.kind = 2) (h3 : ¬ f.kind = 3) (e : okR (pointG f.fc n.nd) s y s') : okR (wordG f.fc n.nd) s y s' := by
  rw [wordG, nd_kind, if_neg h, if_neg (c := f.fc.kind = 2) h2, if_neg (c := f.fc.kind = 3) h3]; exact e
/-! ### What the reference says of a reading -/
structure GotR where
  word : BitVec 64
  bad : Bool
  at_ : Int
def gotL (g : GotR) : List Value := [U g.word, B g.bad, I g.at_]
theorem gotL_len (g : GotR) : (gotL g).length = 3 := rfl
def got0 : GotR := ⟨0#64, false, 0⟩
def gotE : Ex (BitVec 64) → GotR
  | .ok x => ⟨x, false, 0⟩
  | .error a => ⟨0#64, true, a⟩
theorem got_ok {x : Ex (BitVec 64)} {y : BitVec 64} (h : x = .ok y) : (⟨y, false, 0⟩ : GotR) = gotE x := by subst h; rfl
theorem got_er {x : Ex (BitVec 64)} {a : Int} (h : x = .error a) : (⟨0#64, true, a⟩ : GotR) = gotE x := by subst h; rfl
theorem gl_next {l : List Tx} {ws : List Wd} {k : Int} {m : List Int} (h0 : 0 ≤ k) (h1 : k < ws.length) (hm : gotP l ws 0#64 = gotP l (ws.drop k.toNat) (ofl m)) (h : ¬ nfind l (ws.getD k.toNat wd0).text < 0) :
    gotP l ws 0#64 = gotP l (ws.drop (k + 1).toNat) (ofl (m ++ [nfind l (ws.getD k.toNat wd0).text])) := by rw [← withB_ofl]; exact got_next h0 h1 hm h
theorem gl_0 {l : List Tx} {ws : List Wd} : gotP l ws 0#64 = gotP l (ws.drop (0 : Int).toNat) (ofl []) := by rw [ofl_nil]; rfl
section refrules
variable {f : Fac} {n : NodeR} {k : Int} {m : BitVec 64} (h0 : 0 ≤ k) (h1 : k < n.kids.length) (hm : rulesG f.fc n.nd.kids 0#64 = rulesG f.fc (n.nd.kids.drop k.toNat) m)
include h0 h1 hm
theorem gr_no (h : nfind f.names (n.kids.getD k.toNat node0).text < 0) : (⟨0#64, true, (n.kids.getD k.toNat node0).place⟩ : GotR) = gotE (rulesG f.fc n.nd.kids 0#64) := by
  rw [ri_at h0 h1, rulesG, nd_text, if_pos (c := nfind f.fc.names (n.kids.getD k.toNat node0).text < 0) h, nd_place] at hm; exact got_er hm
theorem gr_bad (h : ¬ nfind f.names (n.kids.getD k.toNat node0).text < 0) (hb : (gotE (placesG f.names (n.kids.getD k.toNat node0).names)).bad = true) :
    gotE (placesG f.names (n.kids.getD k.toNat node0).names) = gotE (rulesG f.fc n.nd.kids 0#64) := by
  rw [ri_at h0 h1, rulesG, nd_text, if_neg (c := nfind f.fc.names (n.kids.getD k.toNat node0).text < 0) h, nd_names, show f.fc.names = f.names from rfl] at hm
  cases hp : placesG f.names (n.kids.getD k.toNat node0).names with
  | ok z => rw [hp] at hb; cases hb
  | error a => rw [hp] at hm; rw [hm]
theorem gr_next (h : ¬ nfind f.names (n.kids.getD k.toNat node0).text < 0) (hb : ¬ (gotE (placesG f.names (n.kids.getD k.toNat node0).names)).bad = true) :
    rulesG f.fc n.nd.kids 0#64 = rulesG f.fc (n.nd.kids.drop (k + 1).toNat) (m ||| ruleG f.rel (nfind f.names (n.kids.getD k.toNat node0).text) (gotE (placesG f.names (n.kids.getD k.toNat node0).names)).word) := by
  rw [ri_at h0 h1, rulesG, nd_text, if_neg (c := nfind f.fc.names (n.kids.getD k.toNat node0).text < 0) h, nd_names, show f.fc.names = f.names from rfl] at hm
  cases hp : placesG f.names (n.kids.getD k.toNat node0).names with
  | ok z => rw [hp] at hm; exact hm
  | error a => rw [hp] at hb; exact absurd rfl hb
end refrules
theorem gr_end {f : Fac} {n : NodeR} {k : Int} {m : BitVec 64} (h1 : ¬ k < n.kids.length) (hm : rulesG f.fc n.nd.kids 0#64 = rulesG f.fc (n.nd.kids.drop k.toNat) m) : (⟨m, false, 0⟩ : GotR) = gotE (rulesG f.fc n.nd.kids 0#64) := by
  rw [drop_end (by rw [nd_len]; exact h1)] at hm; exact got_ok hm
section refword
variable {f : Fac} {n : NodeR}
theorem gw_no2 (h2 : f.kind = 2) (h : ¬ n.kind = 3) : (⟨0#64, true, n.place⟩ : GotR) = gotE (wordG f.fc n.nd) := by
  rw [wordG, nd_kind, if_pos (by rw [kindN, if_pos (c := f.fc.kind = 2) h2]; exact h), nd_place]; rfl
theorem gw_2 (h2 : f.kind = 2) (h : ¬ ¬ n.kind = 3) : gotE (placesG f.names n.names) = gotE (wordG f.fc n.nd) := by
  rw [wordG, nd_kind, if_neg (by rw [kindN, if_pos (c := f.fc.kind = 2) h2]; exact h), if_pos (c := f.fc.kind = 2) h2, nd_names]; rfl
theorem gw_no3 (h2 : ¬ f.kind = 2) (h3 : f.kind = 3) (h : ¬ n.kind = 5) : (⟨0#64, true, n.place⟩ : GotR) = gotE (wordG f.fc n.nd) := by
  rw [wordG, nd_kind, if_pos (by rw [kindN, if_neg (c := f.fc.kind = 2) h2, if_pos (c := f.fc.kind = 3) h3]; exact h), nd_place]; rfl
theorem gw_3 (h2 : ¬ f.kind = 2) (h3 : f.kind = 3) (h : ¬ ¬ n.kind = 5) : gotE (rulesG f.fc n.nd.kids 0#64) = gotE (wordG f.fc n.nd) := by
  rw [wordG, nd_kind, if_neg (by rw [kindN, if_neg (c := f.fc.kind = 2) h2, if_pos (c := f.fc.kind = 3) h3]; exact h), if_neg (c := f.fc.kind = 2) h2, if_pos (c := f.fc.kind = 3) h3]
theorem gw_no1 (h2 : ¬ f.kind = 2) (h3 : ¬ f.kind = 3) (h : ¬ n.kind = 2 ∨ nfind f.names n.text < 0) : (⟨0#64, true, n.place⟩ : GotR) = gotE (wordG f.fc n.nd) := by
  rw [wordG, nd_kind, kindN, if_neg (c := f.fc.kind = 2) h2, if_neg (c := f.fc.kind = 3) h3]
  by_cases hk : n.kind = 2
  · rw [if_neg (fun e => e hk), if_neg (c := f.fc.kind = 2) h2, if_neg (c := f.fc.kind = 3) h3, pointG, nd_text, if_pos (c := nfind f.fc.names n.text < 0) (h.resolve_left fun e => e hk), nd_place]; rfl
  · rw [if_pos hk, nd_place]; rfl
theorem gw_1 (h2 : ¬ f.kind = 2) (h3 : ¬ f.kind = 3) (h : ¬ (¬ n.kind = 2 ∨ nfind f.names n.text < 0)) : gotE (pointG f.fc n.nd) = gotE (wordG f.fc n.nd) := by
  rw [wordG, nd_kind, kindN, if_neg (c := f.fc.kind = 2) h2, if_neg (c := f.fc.kind = 3) h3, if_neg (fun e => h (.inl e)), if_neg (c := f.fc.kind = 2) h2, if_neg (c := f.fc.kind = 3) h3]
theorem gw_14 (h2 : ¬ f.kind = 2) (h3 : ¬ f.kind = 3) (h : ¬ (¬ n.kind = 2 ∨ nfind f.names n.text < 0)) (h4 : f.kind = 4) : (⟨belowR f.rel (nfind f.names n.text), false, 0⟩ : GotR) = gotE (wordG f.fc n.nd) := by
  have e : pointG f.fc n.nd = .ok (belowR f.rel (nfind f.names n.nd.text)) := point_4 (by rw [nd_text]; exact fun e => h (.inr e)) h4
  rw [← gw_1 h2 h3 h, e, nd_text]; rfl
theorem gw_11 (h2 : ¬ f.kind = 2) (h3 : ¬ f.kind = 3) (h : ¬ (¬ n.kind = 2 ∨ nfind f.names n.text < 0)) (h4 : ¬ f.kind = 4) : (⟨(wordv f.names.length (nfind f.names n.text)).1, false, 0⟩ : GotR) = gotE (wordG f.fc n.nd) := by
  have e : pointG f.fc n.nd = .ok (wordv f.names.length (nfind f.names n.nd.text)).1 := point_1 (by rw [nd_text]; exact fun e => h (.inr e)) h4
  rw [← gw_1 h2 h3 h, e, nd_text]; rfl
end refword
/-! ### The words of factors, one after the other -/
def EInv (l : List (Fc × Nd)) (k : Int) (e : El) (s : RS) : Prop :=
  (s = (false, 0) ∧ elemL l 0 el0 = elemL (l.drop k.toNat) k.toNat e) ∨ ∃ a, elemL l 0 el0 = .error a ∧ s = (true, a)
theorem ei_0 {l : List (Fc × Nd)} : EInv l 0 el0 (false, 0) := .inl ⟨rfl, rfl⟩
theorem ei_next {l : List (Fc × Nd)} {k : Int} {e : El} {s s' : RS} {y : BitVec 64} (h0 : 0 ≤ k) (h1 : k < l.length) (hm : EInv l k e s)
    (ho : okR (wordG (l.getD k.toNat (fc0, nd0)).1 (l.getD k.toNat (fc0, nd0)).2) s y s') : EInv l (k + 1) (putE e k.toNat y) s' := by
  have hk : (k + 1).toNat = k.toNat + 1 := by omega
  rcases hm with ⟨rfl, he⟩ | ⟨a, he, rfl⟩
  · rw [drop_at (d := (fc0, nd0)) h0 h1, elemL] at he
    cases hp : wordG (l.getD k.toNat (fc0, nd0)).1 (l.getD k.toNat (fc0, nd0)).2 with
    | ok z => rw [hp] at ho he; obtain ⟨rfl, rfl⟩ := ho; exact .inl ⟨rfl, by rw [he, hk]⟩
    | error a => rw [hp] at ho he; exact .inr ⟨a, he, ho⟩
  · cases hp : wordG (l.getD k.toNat (fc0, nd0)).1 (l.getD k.toNat (fc0, nd0)).2 with
    | ok z => rw [hp] at ho; obtain ⟨rfl, rfl⟩ := ho; exact .inr ⟨a, he, rfl⟩
    | error b => rw [hp] at ho; exact .inr ⟨a, he, ho⟩
theorem ei_ok {l : List (Fc × Nd)} {k : Int} {e : El} {s : RS} (h : ¬ k < l.length) (hm : EInv l k e s) (hb : ¬ s.1 = true) : elemL l 0 el0 = .ok e := by
  rcases hm with ⟨rfl, he⟩ | ⟨a, he, rfl⟩
  · rw [he, drop_end h]; rfl
  · exact absurd rfl hb
theorem ei_er {l : List (Fc × Nd)} {k : Int} {e : El} {s : RS} (hm : EInv l k e s) (hb : s.1 = true) : elemL l 0 el0 = .error s.2 := by
  rcases hm with ⟨rfl, he⟩ | ⟨a, he, rfl⟩
  · cases hb
  · exact he
/-! ### Nodes of elements -/
def namesOf (l : List Tx) (w : BitVec 64) : List Wd := (lst w).map fun i => ⟨l.getD i.toNat tx0, 0⟩
def ruleN (f : Fc) (w : BitVec 64) (o : Int) : Nd := .mk 6 0 (f.names.getD o.toNat tx0) (namesOf f.names (readersG f.rel w o)) []
def constF (f : Fc) (w : BitVec 64) : Nd :=
  if f.kind = 2 then .mk 3 0 tx0 (namesOf f.names w) []
  else if f.kind = 3 then .mk 5 0 tx0 [] ((lst (ownersG f.rel w)).map (ruleN f w))
  else if f.kind = 4 then .mk 2 0 (f.names.getD (pointV f.rel w).1.toNat tx0) [] []
  else .mk 2 0 (f.names.getD (level f.names.length w).1.toNat tx0) [] []
def constsTo (s : Sh) (e : El) (k : Int) : List Nd := (upto k).map fun i => constF (s.facs.getD i.toNat fc0) (e i.toNat)
def nodeF (s : Sh) (e : El) : Nd :=
  if fitsS s e then (if s.tuple then .mk 4 0 tx0 [] (constsTo s e s.facs.length) else constF (s.facs.getD 0 fc0) (e 0)) else nd0
def spellF (s : Sh) (e : El) : Tx := tc 35 ++ textF (nodeF s e)
theorem consts_next {s : Sh} {e : El} {k : Int} (h : 0 ≤ k) : constsTo s e (k + 1) = constsTo s e k ++ [constF (s.facs.getD k.toNat fc0) (e k.toNat)] := by
  rw [constsTo, constsTo, ← upto_succ h, List.map_append]; rfl
end Go.Proofs.YtieckcbckgalhaaGreatDoor.E
