/-
  Constants of shapes: what the walks of reading and writing lean on.
-/
import Derived.Test.YtieckcbckgalhaaGreatDoorSpt
import Derived.Test.YtieckcbckgalhaaGreatDoorOut
namespace Go.Proofs.YtieckcbckgalhaaGreatDoor.E
open Go Go.RowKit Go.Proofs.YtieckcbckgalhaaGreatDoor.M
set_option linter.unusedVariables false
/-- A node of which each list of names takes at most 2^47 bytes. -/
inductive NodeZ : NodeR → Prop
  | mk {kind place : Int} {text : Tx} {nv : Value} {names : List Wd} {kv : Value} {kids : List NodeR} (hl : names.length ≤ 5864062014634) (each : ∀ x ∈ kids, NodeZ x) : NodeZ (.mk kind place text nv names kv kids)
theorem NodeZ.len {n : NodeR} (h : NodeZ n) : n.names.length ≤ 5864062014634 := by cases h; assumption
theorem NodeZ.each {n : NodeR} (h : NodeZ n) : ∀ x ∈ n.kids, NodeZ x := by cases h; assumption
theorem NodeZ.kid {n : NodeR} (h : NodeZ n) : ∀ x ∈ n.kids, x.names.length ≤ 5864062014634 := fun x hx => (h.each x hx).len
/-! ### The parts of a constant -/
def partsR (s : Shp) (n : NodeR) : List NodeR := if s.tuple then n.kids else [n]
def partB (s : Shp) (n : NodeR) : Bool := !s.tuple || decide (n.kind = 4 ∧ n.kids.length = s.facs.length)
theorem partsR_1 {s : Shp} {n : NodeR} (h : s.tuple = false) : [n] = partsR s n := by rw [partsR, h]; rfl
theorem partsR_2 {s : Shp} {n : NodeR} (h : s.tuple = true) : n.kids = partsR s n := by rw [partsR, h]; rfl
theorem partsR_v {K : Vu} {s : Shp} {n : NodeR} (h : NodeV K n) : NodesV K (partsR s n) := ⟨fun x hx => by
  rw [partsR] at hx
  split at hx
  · exact h.each x hx
  · rw [List.mem_singleton.1 hx]; exact h⟩
theorem partsR_z {s : Shp} {n : NodeR} (h : NodeZ n) : ∀ x ∈ partsR s n, NodeZ x := fun x hx => by
  rw [partsR] at hx
  split at hx
  · exact h.each x hx
  · rw [List.mem_singleton.1 hx]; exact h
theorem partsR_nd (s : Shp) (n : NodeR) : partsF s.sh n.nd = (partsR s n).map NodeR.nd := by
  rw [partsF, partsR]
  show (if s.tuple = true then _ else _) = _
  split
  · rw [nd_kids]
  · rfl
theorem fit_is (s : Shp) (n : NodeR) : fitN s.sh n.nd = (shR s.sh && constB n.nd && partB s n) := by
  rw [fitN, partB, nd_kind, nd_len, sh_len]; rfl
def zipF (s : Shp) (n : NodeR) : List (Fc × Nd) := s.sh.facs.zip (partsF s.sh n.nd)
section
variable {s : Shp} {n : NodeR}
theorem partB_1 (h : s.tuple = false) : partB s n = true := by rw [partB, h]; rfl
theorem partB_2 (h : n.kind = 4) (h2 : (n.kids.length : Int) = s.facs.length) : partB s n = true := by rw [partB, decide_eq_true ⟨h, by omega⟩, Bool.or_true]
theorem partB_n1 (ht : s.tuple = true) (h : ¬ n.kind = 4) : partB s n = false := by rw [partB, ht, decide_eq_false (fun e => h e.1)]; rfl
theorem partB_n2 (ht : s.tuple = true) (h : ¬ (n.kids.length : Int) = s.facs.length) : partB s n = false := by rw [partB, ht, decide_eq_false (fun e => h (by omega))]; rfl
theorem el_no1 (h : partB s n = false) : elemG s.sh n.nd = .error n.place := by rw [elemG, fit_is, h, Bool.and_false, nd_place]; rfl
theorem el_no2 (h : shR s.sh = false) : elemG s.sh n.nd = .error n.place := by rw [elemG, fit_is, h, nd_place]; rfl
theorem el_no3 (h : constB n.nd = false) : elemG s.sh n.nd = .error n.place := by rw [elemG, fit_is, h, Bool.and_false, nd_place]; rfl
theorem el_yes (h1 : partB s n = true) (h2 : shR s.sh = true) (h3 : constB n.nd = true) : elemG s.sh n.nd = elemL (zipF s n) 0 el0 := by rw [elemG, fit_is, h1, h2, h3]; rfl
theorem parts_len (h1 : partB s n = true) (h2 : shR s.sh = true) : (partsR s n).length = s.facs.length := by
  rw [partB, Bool.or_eq_true, decide_eq_true_eq] at h1
  have h3 := sh_spec h2
  have h4 := sh_len s
  rw [partsR]
  by_cases ht : s.tuple = true
  · rw [if_pos ht]
    rcases h1 with h1 | h1
    · rw [ht] at h1; cases h1
    · exact h1.2
  · rw [if_neg ht]
    have h5 : s.sh.facs.length = 1 := h3.2.1.resolve_left ht
    rw [← h4, h5]; rfl
theorem zip_len (h : (partsR s n).length = s.facs.length) : (zipF s n).length = s.facs.length := by
  rw [zipF, partsR_nd, List.length_zip, List.length_map, h, sh_len]; omega
theorem zip_get {k : Int} (h : (partsR s n).length = s.facs.length) (h0 : 0 ≤ k) (h1 : k < s.facs.length) : (zipF s n).getD k.toNat (fc0, nd0) = ((s.facs.getD k.toNat fac0).fc, ((partsR s n).getD k.toNat node0).nd) := by
  have h2 : k.toNat < s.facs.length := by omega
  have h3 : (zipF s n)[k.toNat]? = some ((s.facs.getD k.toNat fac0).fc, ((partsR s n).getD k.toNat node0).nd) := by
    rw [zipF, partsR_nd, List.getElem?_zip_eq_some]
    constructor
    · show (s.facs.map Fac.fc)[k.toNat]? = _
      rw [List.getElem?_map, getD_at (d := fac0) h0 h1]; rfl
    · rw [List.getElem?_map, getD_at (d := node0) h0 (by omega)]; rfl
  rw [List.getD_eq_getElem?_getD, h3]; rfl
end
theorem res_er {x : Ex El} {a : Int} (h : x = .error a) : Value.tuple #[.agg (elC el0), .agg (fltL ⟨4, a⟩).toArray] = .tuple #[.agg (elC (resE x).1), .agg (fltL (resE x).2).toArray] := by subst h; rfl
theorem res_ok {x : Ex El} {e : El} (h : x = .ok e) : Value.tuple #[.agg (elC e), .agg (fltL flt0).toArray] = .tuple #[.agg (elC (resE x).1), .agg (fltL (resE x).2).toArray] := by subst h; rfl
section ref
variable {l : List (Fc × Nd)} {k : Int} {e : El} {f : Fc} {m : Nd} (h0 : 0 ≤ k) (h1 : k < l.length) (hm : elemL l 0 el0 = elemL (l.drop k.toNat) k.toNat e) (hw : l.getD k.toNat (fc0, nd0) = (f, m))
include h0 h1 hm hw
theorem re_bad (hb : (gotE (wordG f m)).bad = true) : elemL l 0 el0 = .error (gotE (wordG f m)).at_ := by
  rw [drop_at (d := (fc0, nd0)) h0 h1, hw, elemL] at hm
  cases hp : wordG f m with
  | ok z => rw [hp] at hb; cases hb
  | error a => rw [hp] at hm; exact hm
theorem re_next (hb : ¬ (gotE (wordG f m)).bad = true) : elemL l 0 el0 = elemL (l.drop (k + 1).toNat) (k + 1).toNat (putE e k.toNat (gotE (wordG f m)).word) := by
  rw [drop_at (d := (fc0, nd0)) h0 h1, hw, elemL] at hm
  cases hp : wordG f m with
  | ok z => rw [hp] at hm; rw [hm, show (k + 1).toNat = k.toNat + 1 by omega]; rfl
  | error a => rw [hp] at hb; exact absurd rfl hb
end ref
theorem re_end {l : List (Fc × Nd)} {k : Int} {e : El} (h1 : ¬ k < l.length) (hm : elemL l 0 el0 = elemL (l.drop k.toNat) k.toNat e) : elemL l 0 el0 = .ok e := by
  rw [hm, drop_end h1]; rfl
/-! ### The reference's look at nodes -/
def allP (q : Int) (x : NodeR) : Bool := if q = 1 then constB x.nd else ruleB x.nd
theorem allP_1 (l : List NodeR) : l.all (allP 1) = l.all fun x => constB x.nd := rfl
theorem allP_2 (l : List NodeR) : l.all (allP 2) = l.all fun x => ruleB x.nd := rfl
section
variable {n : NodeR}
theorem const_4r (h : n.kind = 4) (ht : n.text = tx0) (hn : (n.names.length : Int) = 0) (hk : (0 : Int) < n.kids.length) : n.kids.all (allP 1) = constB n.nd := const_4y h ⟨ht, by omega⟩ hk
theorem const_4s (h : n.kind = 4) (hn : ¬ (n.names.length : Int) = 0) : false = constB n.nd := const_4n h fun e => hn (by omega)
theorem const_4t (h : n.kind = 4) (ht : ¬ n.text = tx0) : false = constB n.nd := const_4n h fun e => ht e.1
theorem const_5r (h : n.kind = 5) (ht : n.text = tx0) (hn : (n.names.length : Int) = 0) : n.kids.all (allP 2) = constB n.nd := const_5y h ⟨ht, by omega⟩
theorem const_5s (h : n.kind = 5) (hn : ¬ (n.names.length : Int) = 0) : false = constB n.nd := const_5n h fun e => hn (by omega)
theorem const_5t (h : n.kind = 5) (ht : ¬ n.text = tx0) : false = constB n.nd := const_5n h fun e => ht e.1
theorem rule_y (h1 : n.kind = 6) (h2 : nameR n.text = true) (h3 : wordsR n.names = true) (h4 : (n.kids.length : Int) = 0) : ruleB n.nd = true := by
  rw [rule_is, h1, h2, h3, decide_eq_true (show n.kids.length = 0 by omega)]; rfl
theorem rule_n1 (h : ¬ n.kind = 6) : ruleB n.nd = false := by rw [rule_is, decide_eq_false h]; rfl
theorem rule_n2 (h : nameR n.text = false) : ruleB n.nd = false := by rw [rule_is, h]; simp
theorem rule_n3 (h : wordsR n.names = false) : ruleB n.nd = false := by rw [rule_is, h]; simp
theorem rule_n4 (h : ¬ (n.kids.length : Int) = 0) : ruleB n.nd = false := by rw [rule_is, decide_eq_false (show ¬ n.kids.length = 0 by omega)]; simp
end
theorem allP_c {q : Int} (h : q = 1) (x : NodeR) : allP q x = constB x.nd := if_pos h
theorem allP_r {q : Int} (h : q = 2) (x : NodeR) : allP q x = ruleB x.nd := if_neg (by omega)
end Go.Proofs.YtieckcbckgalhaaGreatDoor.E
