/-
  The chapter's example.
-/
import Derived.Test.YtiaifdnlkdcbiaaDoorRgt
namespace Go.Proofs.YtiaifdnlkdcbiaaDoor.E
open Go Go.RowKit Go.Proofs.YtiaifdnlkdcbiaaDoor.M
set_option linter.unusedVariables false
set_option maxRecDepth 100000
theorem node0_v (K : Vu) : NodeV K node0 := .mk (SlV.nil _ _) (SlV.nil _ _) fun x hx => by cases hx
theorem scp0_v (K : Vu) : ScpV K scp0 := ⟨SlV.nil _ _, SlV.nil _ _, fun l hl => by cases hl⟩
def exK : Tx := ⟨#[107]⟩
def exA : Tx := ⟨#[97]⟩
def exB : Tx := ⟨#[98]⟩
def exX : Tx := ⟨#[120]⟩
def mkC (op : Int) (x : Wd) (v : Value) (l : List Wd) : CmdR := ⟨op, 0, x, v, l, .slice none 0 0, [], 0, node0, node0⟩
theorem mkC_v {K : Vu} {op : Int} {x : Wd} {v : Value} {l : List Wd} (h : SlV K v 2 l.length (l.flatMap wdL)) : CmdV K (mkC op x v l) := ⟨h, SlV.nil _ _, node0_v _, node0_v _⟩
def exC1 (v : Value) : CmdR := mkC 1 ⟨exK, 0⟩ v (wordsTo [exA, exB] 2)
def exC2 (v : Value) : CmdR := mkC 6 ⟨exK, 0⟩ v (wordsTo [exX] 1)
def exS1 : Sh := ⟨false, [⟨1, [exA, exB], Rl.none⟩]⟩
theorem al_1 (v : Value) : addF scp0 (exC1 v) = ⟨[(exK, exS1)], []⟩ := by kernel_rfl
theorem al_q {q : Scp} {l : List VarR} (h : q.sc = ⟨[(exK, exS1)], l⟩) : ∃ (lv vv fv nv : Value), q = ⟨lv, [⟨exK, ⟨false, fv, [⟨1, nv, [exA, exB], Rl.none⟩]⟩⟩], vv, l⟩ := by
  obtain ⟨lv, lats, vv, vars⟩ := q
  have h1 : lats.map LatR.pl = [(exK, exS1)] := congrArg Sc.lats h
  have h2 : vars = l := congrArg Sc.vars h
  subst h2
  match lats, h1 with
  | [], h1 => simp at h1
  | _ :: _ :: _, h1 => simp at h1
  | [x], h1 =>
    obtain ⟨n, t, fv, facs⟩ := x
    simp only [List.map_cons, List.map_nil, List.cons.injEq, and_true, LatR.pl, Shp.sh, exS1, Prod.mk.injEq, Sh.mk.injEq] at h1
    obtain ⟨rfl, rfl, h3⟩ := h1
    match facs, h3 with
    | [], h3 => simp at h3
    | _ :: _ :: _, h3 => simp at h3
    | [f], h3 =>
      obtain ⟨k, nv, l, r⟩ := f
      simp only [List.map_cons, List.map_nil, List.cons.injEq, and_true, Fac.fc, Fc.mk.injEq] at h3
      obtain ⟨rfl, rfl, rfl⟩ := h3
      exact ⟨lv, vv, fv, nv, rfl⟩
theorem al_2 {q : Scp} (h : q.sc = ⟨[(exK, exS1)], []⟩) (v : Value) : addF q (exC2 v) = ⟨[(exK, exS1)], [⟨exX, 1, 0⟩]⟩ := by
  obtain ⟨lv, vv, fv, nv, rfl⟩ := al_q h
  kernel_rfl
theorem al_3 {t : Scp} (h : t.sc = ⟨[(exK, exS1)], [⟨exX, 1, 0⟩]⟩) (v : Value) : t.lats.length = 1 ∧ findLat t exX = -1 ∧ findVar t exX = 0 ∧ faultF t (exC2 v) = ⟨3, 10⟩ ∧ rightS t = true := by
  obtain ⟨lv, vv, fv, nv, rfl⟩ := al_q h
  refine ⟨rfl, ?_, ?_, ?_, ?_⟩ <;> kernel_rfl
theorem al_sm {q : Scp} {l : List VarR} (h : q.sc = ⟨[(exK, exS1)], l⟩) (hl : l.length ≤ 80) (v : Value) : Sm q (exC2 v) := by
  obtain ⟨lv, vv, fv, nv, rfl⟩ := al_q h
  refine ⟨by show (1 : Nat) ≤ 100; omega, by show (0 : Nat) ≤ 100; omega, by show (1 : Nat) ≤ 20; omega, hl, fun a ha => ?_, fun a ha f hf => ?_⟩
  · rw [List.mem_singleton.1 ha]; show (1 : Nat) ≤ 100; omega
  · rw [List.mem_singleton.1 ha] at hf
    rw [List.mem_singleton.1 hf]; show (2 : Nat) ≤ 100; omega
theorem al_sm0 (v : Value) : Sm scp0 (exC1 v) := ⟨by show (2 : Nat) ≤ 100; omega, by show (0 : Nat) ≤ 100; omega, by show (0 : Nat) ≤ 20; omega, by show (0 : Nat) ≤ 80; omega, fun a ha => (by cases ha), fun a ha => (by cases ha)⟩
end Go.Proofs.YtiaifdnlkdcbiaaDoor.E
