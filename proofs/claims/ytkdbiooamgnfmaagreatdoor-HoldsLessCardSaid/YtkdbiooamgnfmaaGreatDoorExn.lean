/-
  The example of ch. 19.
-/
import Derived.Test.YtkdbiooamgnfmaaGreatDoorMap
namespace Go.Proofs.YtkdbiooamgnfmaaGreatDoor.E
open Go Go.RowKit Go.Proofs.YtkdbiooamgnfmaaGreatDoor.M
set_option linter.unusedVariables false
set_option linter.unusedSimpArgs false
def exF9 : Tx := ⟨#[102]⟩
def exE9 : El := putE el0 0 1#64
def exS9 (lv fv nv vv : Value) : Scp := ⟨lv, [⟨⟨#[107]⟩, ⟨false, fv, [⟨1, nv, exLH, Rl.none⟩]⟩⟩], vv, [⟨⟨#[114]⟩, 2, 0⟩]⟩
def exA9 (v u x : Value) : Asg := ⟨v, [el0], u, [⟨x, [⟨exF9, exE9⟩]⟩]⟩
def exX9 (fv : Value) : AssR := ⟨9, 0, .slice none 0 0, [], atom0, ⟨.slice none 0 0, [], 0⟩, ⟨fv, [⟨exF9, ⟨-1, exE9⟩⟩], -1⟩, 0, tx0⟩
def exY9 : AssR := ⟨10, 0, .slice none 0 0, [], atom0, row0, row0, 0, exF9⟩
theorem ex9_one (s : Scp) (v u x fv : Value) : oneF s (exA9 v u x).as (exX9 fv) = true := by
  rw [one_9 rfl]; exact (by decide +kernel : ((rowM ⟨[el0], [[⟨exF9, exE9⟩]]⟩ ⟨.slice none 0 0, [], 0⟩).2 && (rowM ⟨[el0], [[⟨exF9, exE9⟩]]⟩ ⟨.slice none 0 0, [⟨exF9, ⟨-1, exE9⟩⟩], -1⟩).2 && sameL (rowM ⟨[el0], [[⟨exF9, exE9⟩]]⟩ ⟨.slice none 0 0, [], 0⟩).1 (rowM ⟨[el0], [[⟨exF9, exE9⟩]]⟩ ⟨.slice none 0 0, [⟨exF9, ⟨-1, exE9⟩⟩], -1⟩).1) = true)
theorem ex9_two (s : Scp) (v u x : Value) : oneF s (exA9 v u x).as exY9 = false := by
  rw [one_10 rfl (by show (0 : Int) ≤ 0 ∧ (0 : Int) < 1; decide)]; exact (by decide +kernel : (!(getF [⟨exF9, exE9⟩] exF9).2) = false)
theorem ex9_first (s : Scp) (v u x fv : Value) : firstF s (exA9 v u x).as [exX9 fv, exY9] = 1 :=
  first_yes (k := 1) (by decide) (by show (1 : Int) < 2; decide) (ex9_two s v u x) fun j a b => by
    have : j = 0 := by omega
    subst this; exact ex9_one s v u x fv
theorem ex9_sm (fv : Value) : ∀ x ∈ [exX9 fv, exY9], AssSm x := fun x hx => by
  rcases List.mem_cons.1 hx with rfl | hx
  · exact ⟨by show 0 ≤ 1000; decide, by show 0 ≤ 1000; decide, by show 1 ≤ 1000; decide, fun f hf => (by cases hf), fun f hf => by rw [List.mem_singleton.1 hf]; show 1 ≤ 1000; decide⟩
  · rw [List.mem_singleton.1 hx]
    exact ⟨by show 0 ≤ 1000; decide, by show 0 ≤ 1000; decide, by show 0 ≤ 1000; decide, fun f hf => (by cases hf), fun f hf => (by cases hf)⟩
theorem ex9_asm (v u x : Value) : AsgSm (exA9 v u x) := ⟨fun r hr => by rw [List.mem_singleton.1 hr]; show 1 ≤ 1000; decide, fun r hr y hy => by rw [List.mem_singleton.1 hr] at hy; rw [List.mem_singleton.1 hy]; show 1 ≤ 1000; decide⟩
section
variable {α : Type} {l : List α} {k : Int}
theorem less_mem {x : α} (h : x ∈ l.take k.toNat ++ l.drop (k + 1).toNat) : x ∈ l := by
  rcases List.mem_append.1 h with h | h
  · exact List.mem_of_mem_take h
  · exact List.mem_of_mem_drop h
end
theorem asserts_one {K : Vu} {p : ProbR} (hp : ProbV K p) : ∀ u ∈ p.asserts.flatMap assL, u.oneCell' = true := fun u hu => by
  obtain ⟨x, hx, hu⟩ := List.mem_flatMap.1 hu
  exact assL_one (hp.each x hx) u (by simpa using hu)
end Go.Proofs.YtkdbiooamgnfmaaGreatDoor.E
