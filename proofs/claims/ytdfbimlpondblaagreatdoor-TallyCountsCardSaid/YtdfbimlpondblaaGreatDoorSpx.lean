/-
  Nodes of elements: how they are laid, compared, and written; and how great they are.
-/
import Derived.Test.YtdfbimlpondblaaGreatDoorSpn
namespace Go.Proofs.YtdfbimlpondblaaGreatDoor.E
open Go Go.RowKit Go.Proofs.YtdfbimlpondblaaGreatDoor.M
set_option linter.unusedVariables false
theorem NodesV.nil (K : Vu) : NodesV K [] := ⟨fun x hx => by simp at hx⟩
theorem NodesV.snoc {K : Vu} {l : List NodeR} {n : NodeR} (h : NodesV K l) (hn : NodeV K n) : NodesV K (l ++ [n]) := ⟨fun x hx => by
  rcases List.mem_append.1 hx with hx | hx
  · exact h.each x hx
  · rw [List.mem_singleton.1 hx]; exact hn⟩
def wdN (l : List Tx) (i : Int) : Wd := ⟨l.getD i.toNat tx0, 0⟩
def namedTo (l : List Tx) (w : BitVec 64) (k : Int) : List Wd := ((upto k).filter (hasB w)).map (wdN l)
/-! ### Nodes of factors -/
def nilV : Value := .slice none 0 0
def kindR (k : Int) (t : Tx) (nv : Value) (names : List Wd) : NodeR := .mk k 0 t nv names (.slice none 0 0) []
def kidsR (k : Int) (kv : Value) (kids : List NodeR) : NodeR := .mk k 0 tx0 (.slice none 0 0) [] kv kids
def rulesTo (f : Fc) (w : BitVec 64) (k : Int) : List Nd := ((lst (ownersG f.rel w)).take k.toNat).map (ruleN f w)
def ruledTo (f : Fc) (w : BitVec 64) (k : Int) : List Nd := ((upto k).filter (hasB (ownersG f.rel w))).map (ruleN f w)
/-! ### How great a node's text is -/
def szF : Nd → Nat
  | .mk kind _ text names kids => (if 0 ≤ kind ∧ kind ≤ 6 then 4 else 10000000000) + text.size + (names.map fun x => x.text.size + 1).sum + (kids.attach.map fun x => szF x.1 + 1).sum
termination_by n => SizeOf.sizeOf n
decreasing_by
  have := List.sizeOf_lt_of_mem x.2
  simp only [Nd.mk.sizeOf_spec]
  omega
theorem sz_eq (n : Nd) : szF n = (if 0 ≤ n.kind ∧ n.kind ≤ 6 then 4 else 10000000000) + n.text.size + (n.names.map fun x => x.text.size + 1).sum + (n.kids.map fun x => szF x + 1).sum := by
  cases n with
  | mk k p t names kids =>
  have h : (kids.attach.map fun x => szF x.1 + 1) = kids.map fun x => szF x + 1 := by simp
  rw [szF, h]; rfl
theorem sum_mono {α : Type} {F G : α → Nat} : ∀ (l : List α), (∀ x ∈ l, F x ≤ G x) → (l.map F).sum ≤ (l.map G).sum
  | [], _ => by simp
  | y :: l, h => by
    have h1 := h y (List.mem_cons_self ..)
    have h2 := sum_mono l fun x hx => h x (List.mem_cons_of_mem _ hx)
    simp only [List.map_cons, List.sum_cons]; omega
structure TxN (n : Nd) : Prop where
  sz : szF n ≤ 1000000000
theorem TxN.kind {n : Nd} (h : TxN n) : 0 ≤ n.kind ∧ n.kind ≤ 6 := by
  have h1 := h.sz
  rw [sz_eq] at h1
  split at h1
  · assumption
  · omega
theorem foldl_size : ∀ (l : List Tx) (a : Tx), (l.foldl (fun a y => a ++ tc 44 ++ y) a).size = a.size + (l.map fun x => x.size + 1).sum
  | [], a => by simp
  | y :: l, a => by
    rw [List.foldl_cons, foldl_size l, tx_size_app, tx_size_app, List.map_cons, List.sum_cons, show (tc 44).size = 1 from rfl]; omega
theorem commas_sz (l : List Tx) : (commasF l).size ≤ (l.map fun x => x.size + 1).sum := by
  cases l with
  | nil => exact Nat.le_refl _
  | cons x l =>
    show (l.foldl (fun a y => a ++ tc 44 ++ y) x).size ≤ _
    rw [foldl_size]
    simp only [List.map_cons, List.sum_cons]; omega
theorem text_sz (n : Nd) : (textF n).size ≤ szF n := nd_ind (C := fun n => (textF n).size ≤ szF n) (fun n ih => by
  rw [sz_eq, text_eq]
  have h1 : (namesT n.names).size ≤ (n.names.map fun x => x.text.size + 1).sum := by
    have := commas_sz (n.names.map Wd.text)
    rw [List.map_map] at this; exact this
  have h2 : (commasF (n.kids.map textF)).size ≤ (n.kids.map fun x => szF x + 1).sum := by
    have h3 := commas_sz (n.kids.map textF)
    rw [List.map_map] at h3
    exact Nat.le_trans h3 (sum_mono n.kids fun x hx => by have := ih x hx; simp only [Function.comp]; omega)
  have h4 : ∀ c : UInt8, (tc c).size = 1 := fun _ => rfl
  have h5 : ((⟨#[58, 123]⟩ : Tx)).size = 2 := rfl
  have h6 : tx0.size = 0 := rfl
  have h7 : 4 ≤ (if 0 ≤ n.kind ∧ n.kind ≤ 6 then 4 else 10000000000) := by split <;> omega
  split
  · omega
  · split
    · simp only [tx_size_app, h4]; omega
    · split
      · simp only [tx_size_app, h4]; omega
      · split
        · simp only [tx_size_app, h4]; omega
        · split
          · simp only [tx_size_app, h4, h5]; omega
          · omega) n
theorem TxN.text {n : Nd} (h : TxN n) : (textF n).size ≤ 1000000000 := Nat.le_trans (text_sz n) h.sz
/-! ### The nodes of elements are small -/
/-! ### Commas, step by step -/
def commasTo (T : Int → Tx) (k : Int) : Tx := commasF ((upto k).map T)
def kidT (l : List NodeR) (i : Int) : Tx := textF (l.getD i.toNat node0).nd
def wdT (l : List Wd) (i : Int) : Tx := (l.getD i.toNat wd0).text
end Go.Proofs.YtdfbimlpondblaaGreatDoor.E
