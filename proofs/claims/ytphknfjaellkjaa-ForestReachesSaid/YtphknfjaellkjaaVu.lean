/-
  Views: what is read of memory that nothing turns. New memory that is handed out is held as a tail of frozen blocks.
-/
import Derived.Test.YtphknfjaellkjaaArr
import Derived.Test.YtphknfjaellkjaaStr
namespace Go.Proofs.Ytphknfjaellkjaa.E
open Go Go.RowKit Go.Proofs.Ytphknfjaellkjaa.M
set_option linter.unusedVariables false
abbrev Vu := Nat → Obj → Prop
def Kw (w : World) : Vu := fun b o => w.heap[b]? = some o
def Kz (K : Vu) (Z : List Ent) : Vu := fun b o => K b o ∨ Ent.blk b o ∈ Z
def cellV (K : Vu) (b j : Nat) (c : Value) : Prop := ∃ cs e fr, K b (.cells cs e fr) ∧ cs[j]? = some c
structure SlV (K : Vu) (v : Value) (sz n : Nat) (cells : List Value) : Prop where
  shape : ∃ a cap, v = .slice a n cap ∧ n ≤ cap ∧ (0 < n → a = some ⟨sb v, so v, none⟩)
  len : cells.length = n * sz
  cell : ∀ j c, cells[j]? = some c → cellV K (sb v) (so v + j) c
  small : n ≤ maxLen
def Le (K K' : Vu) : Prop := ∀ b o, K b o → K' b o
theorem Le.refl (K : Vu) : Le K K := fun _ _ h => h
theorem Le.trans {K K' K'' : Vu} (h : Le K K') (h' : Le K' K'') : Le K K'' := fun b o hb => h' b o (h b o hb)
theorem Le.z (K : Vu) (Z : List Ent) : Le K (Kz K Z) := fun _ _ h => .inl h
theorem Le.zz {K : Vu} {Z Z' : List Ent} (h : ∀ x, x ∈ Z → x ∈ Z') : Le (Kz K Z) (Kz K Z') := fun b o hb => hb.imp id (h _)
theorem Le.kk {K : Vu} {Z Z' : List Ent} : Le (Kz (Kz K Z) Z') (Kz K (Z' ++ Z)) := fun b o hb => by
  rcases hb with (hb | hb) | hb
  · exact .inl hb
  · exact .inr (by simp [hb])
  · exact .inr (by simp [hb])
theorem cellV.mono {K K' : Vu} {b j : Nat} {c : Value} (h : cellV K b j c) (hl : Le K K') : cellV K' b j c := by
  obtain ⟨cs, e, fr, h1, h2⟩ := h; exact ⟨cs, e, fr, hl _ _ h1, h2⟩
theorem SlV.mono {K K' : Vu} {v : Value} {sz n : Nat} {cells : List Value} (h : SlV K v sz n cells) (hl : Le K K') : SlV K' v sz n cells := ⟨h.shape, h.len, fun j c hc => (h.cell j c hc).mono hl, h.small⟩
theorem SlV.nil (K : Vu) (sz : Nat) : SlV K (.slice none 0 0) sz 0 [] := ⟨⟨none, 0, rfl, Nat.le_refl _, fun h => by omega⟩, by simp, fun j c h => by simp at h, by simp [maxLen]⟩
section
variable {w0 w w' : World} {L L' Z : List Ent} {K : Vu} {v : Value} {sz n : Nat} {cells : List Value}
theorem SlV.sl (h : SlV (Kw w) v sz n cells) : Sl w v sz n cells := ⟨h.shape, h.len, fun j c hc => by
  obtain ⟨cs, e, fr, h1, h2⟩ := h.cell j c hc
  rw [cell_of_row w _ _ cs e fr h1]; exact h2, h.small⟩
theorem Kw.below (hb : Below w.heap.size w w') : Le (Kw w) (Kw w') := fun b o h => by
  show w'.heap[b]? = some o
  rw [hb.block b (Array.getElem?_eq_some_iff.1 h).1]; exact h
theorem Hp.callZ (h : Hp w0 w L) (hz : Hp w w' Z) : Hp w0 w' (Z ++ L) := by
  have h' := h.call hz.below
  refine ⟨h'.below, fun x hx => ?_, List.pairwise_append.2 ⟨hz.dis, h'.dis, fun x hx y hy => ?_⟩⟩
  · rcases List.mem_append.1 hx with hx | hx
    · have h1 := hz.ok x hx
      rcases x with ⟨b, o⟩ | ⟨v, e, sz, n, xs⟩
      · exact ⟨Nat.le_trans h.size h1.1, h1.2⟩
      · refine ⟨h1.1, ?_⟩
        rcases h1.2 with hn | ⟨gb, cap, cur, rfl, h2, rest⟩
        · exact .inl hn
        · exact .inr ⟨gb, cap, cur, rfl, Nat.le_trans h.size h2, rest⟩
    · exact h'.ok x hx
  · cases hf : x.foot with
    | none => exact .inl rfl
    | some b =>
      refine .inr fun e => ?_
      have h1 := (Ent.ok_lt (hz.ok x hx) b hf).1
      have h2 := (Ent.ok_lt (h.ok y hy) b (by rw [← e])).2
      omega
theorem Hp.zin (h : Hp w0 w (Z ++ (L ++ L'))) : Hp w0 w (L ++ (Z ++ L')) := h.perm (by
  rw [← List.append_assoc, ← List.append_assoc]
  exact (List.perm_append_comm).append_right L')
end
def PureF (K : Vu) (p : Vu → Value → Prop) (w : World) : Ending → World → Prop := Ret fun u w' => ∃ Z : List Ent, Hp w w' Z ∧ p (Kz K Z) u
section calls
variable {P : Program} {n : Nat} {ops : Array Oper} {k : K} {rest : List Oper} {σ : Env} {w0 w : World} {L : List Ent} {op : Op} {ty : TypeId} {pos : String} {aft : Array Edge} {d : Nat} {Kv : Vu} {p : Vu → Value → Prop}
variable {l : List Oper} {i fuel : Nat} {listed : Array Bool} {g : Option (Nat × Bool)} {L' : List Ent}
end calls
/-! ### Rows whose elements take several cells -/
section flat
variable {α : Type} {cl : α → List Value} {sz : Nat}
variable {P : Program} {σ : Env} {w : World} {dst : Option Tmp} {ty t : TypeId} {pos : String} {aft : Array Edge} {g : Option (Nat × Bool)} {x : Operand} {v : Value} {l : List α} {k : Int}
end flat
end Go.Proofs.Ytphknfjaellkjaa.E
