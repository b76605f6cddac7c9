/-
  The example of ch. 19.
-/
import Derived.Test.YtkdbiooamgnfmaaDoorMap
namespace Go.Proofs.YtkdbiooamgnfmaaDoor.E
open Go Go.RowKit Go.Proofs.YtkdbiooamgnfmaaDoor.M
set_option linter.unusedVariables false
set_option linter.unusedSimpArgs false
def exF9 : Tx := ⟨#[102]⟩
def exE9 : El := putE el0 0 1#64
def exS9 (lv fv nv vv : Value) : Scp := ⟨lv, [⟨⟨#[107]⟩, ⟨false, fv, [⟨1, nv, exLH, Rl.none⟩]⟩⟩], vv, [⟨⟨#[114]⟩, 2, 0⟩]⟩
def exA9 (v u x : Value) : Asg := ⟨v, [el0], u, [⟨x, [⟨exF9, exE9⟩]⟩]⟩
def exX9 (fv : Value) : AssR := ⟨9, 0, .slice none 0 0, [], atom0, ⟨.slice none 0 0, [], 0⟩, ⟨fv, [⟨exF9, ⟨-1, exE9⟩⟩], -1⟩, 0, tx0⟩
def exY9 : AssR := ⟨10, 0, .slice none 0 0, [], atom0, row0, row0, 0, exF9⟩
theorem ex9_one (s : Scp) (v u x fv : Value) : oneF s (exA9 v u x).as (exX9 fv) = true := by
  rw [one_9 rfl]; exact (by decide +kernel : ((rowM ⟨[el0], [[⟨exF9, exE9⟩]]⟩ ⟨.slice none 0 0, [], 0⟩).2 && (rowM ⟨[el0], [[⟨exF9, exE9⟩]]⟩ ⟨.slice none 0 0, [⟨exF9, ⟨-1, exE9⟩⟩], -1⟩).2 && sameL (rowM ⟨[el0], [[⟨exF9, exE9⟩]]⟩ ⟨.slice none 0 0, [], 0⟩).1 (rowM ⟨[el0], [[⟨exF9, exE9⟩]]⟩ ⟨.slice none 0 0, [⟨exF9, ⟨-1, exE9⟩⟩], -1⟩).1) = true)
theorem ex9_two (s : Scp) (v u x : Value) : oneF s (exA9 v u x).as exY9 = false := by
  rw [one_10 rfl (by show (0 : Int) ≤ 0 ∧ (0 : Int) < 1; decide)]; exact (by decide +kernel : (!(getF [⟨exF9, exE9⟩] exF9).2) = false)
theorem ex9_first (s : Scp) (v u x fv : Value) : firstF s (exA9 v u x).as [exX9 fv, exY9] = 1 :=
  first_yes (k := 1) (by decide) (by show (1 : Int) < 2; decide) (ex9_two s v u x) fun j a b => by
    have : j = 0 := by omega
    subst this; exact ex9_one s v u x fv
theorem ex9_sm (fv : Value) : ∀ x ∈ [exX9 fv, exY9], AssSm x := fun x hx => by
  rcases List.mem_cons.1 hx with rfl | hx
  · exact ⟨by show 0 ≤ 1000; decide, by show 0 ≤ 1000; decide, by show 1 ≤ 1000; decide, fun f hf => (by cases hf), fun f hf => by rw [List.mem_singleton.1 hf]; show 1 ≤ 1000; decide⟩
  · rw [List.mem_singleton.1 hx]
    exact ⟨by show 0 ≤ 1000; decide, by show 0 ≤ 1000; decide, by show 0 ≤ 1000; decide, fun f hf => (by cases hf), fun f hf => (by cases hf)⟩
theorem ex9_asm (v u x : Value) : AsgSm (exA9 v u x) := ⟨fun r hr => by rw [List.mem_singleton.1 hr]; show 1 ≤ 1000; decide, fun r hr y hy => by rw [List.mem_singleton.1 hr] at hy; rw [List.mem_singleton.1 hy]; show 1 ≤ 1000; decide⟩
theorem meet_sm {a b m : Asg} (h : m.as = meetA a.as b.as) (ha : AsgSm a) : AsgSm m := by
  have key : ∀ r ∈ m.rows, ∃ x ∈ a.rows, ∃ l, r.l = bothF x.l l := fun r hr => by
    have h2 : r.l ∈ m.as.rows := List.mem_map.2 ⟨r, hr, rfl⟩
    rw [h] at h2
    obtain ⟨p, hp, e⟩ := List.mem_map.1 h2
    obtain ⟨x, hx, e2⟩ := List.mem_map.1 (List.of_mem_zip hp).1
    exact ⟨x, hx, p.2, by rw [← e, ← e2]⟩
  refine ⟨fun r hr => ?_, fun r hr v hv => ?_⟩
  · obtain ⟨x, hx, l, e⟩ := key r hr
    rw [e]; exact Nat.le_trans (both_len _ _) (ha.rl x hx)
  · obtain ⟨x, hx, l, e⟩ := key r hr
    rw [e] at hv
    obtain ⟨y, hy, _, rfl⟩ := both_mem.1 hv
    exact ha.rn x hx y hy
section
variable {α : Type} {l : List α} {k : Int}
end
theorem prob_is {p : ProbR} (h : probOk p = true) : ∀ x ∈ p.asserts, assOk p.s x = true := by
  rw [probOk, Bool.and_eq_true, List.all_eq_true] at h
  exact h.2
end Go.Proofs.YtkdbiooamgnfmaaDoor.E
