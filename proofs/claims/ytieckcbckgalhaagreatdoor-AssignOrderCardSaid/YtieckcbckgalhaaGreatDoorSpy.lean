/-
  Nodes are compared; what readings come to; the chapter's example.
-/
import Derived.Test.YtieckcbckgalhaaGreatDoorSpx
namespace Go.Proofs.YtieckcbckgalhaaGreatDoor.E
open Go Go.RowKit Go.Proofs.YtieckcbckgalhaaGreatDoor.M
set_option linter.unusedVariables false
instance : DecidableEq Wd := fun a b => if h : a.text = b.text ∧ a.place = b.place then .isTrue (by cases a; cases b; cases h.1; cases h.2; rfl) else .isFalse (fun e => h (by rw [e]; exact ⟨rfl, rfl⟩))
theorem nd_same {x y : NodeR} (e : x.nd = y.nd) : x.kind = y.kind ∧ x.place = y.place ∧ x.text = y.text ∧ x.names = y.names ∧ x.kids.map NodeR.nd = y.kids.map NodeR.nd := by
  rw [nd_eq, nd_eq] at e; injection e with e1 e2 e3 e4 e5; exact ⟨e1, e2, e3, e4, e5⟩
theorem kid_same {a b : List NodeR} (e : a.map NodeR.nd = b.map NodeR.nd) {k : Int} (h0 : 0 ≤ k) (h1 : k < a.length) : (a.getD k.toNat node0).nd = (b.getD k.toNat node0).nd := by
  have hl : a.length = b.length := by have := congrArg List.length e; simpa using this
  have h2 := congrArg (fun l : List Nd => l[k.toNat]?) e
  simp only [List.getElem?_map, getD_at (d := node0) h0 h1, getD_at (d := node0) h0 (show k < b.length by omega)] at h2
  exact Option.some.inj h2
theorem kids_same {a b : List NodeR} (e : a.map NodeR.nd = b.map NodeR.nd) : (a.length : Int) = b.length := by have := congrArg List.length e; simp only [List.length_map] at this; omega
theorem res_flt {x : Ex El} (h : ¬ (resE x).2 = flt0) : (resE x).2.cls = 4 ∧ eqE (resE x).1 el0 := by
  cases x with
  | ok e => exact absurd rfl h
  | error a => exact ⟨rfl, fun i _ => rfl⟩
theorem res_is {x : Ex El} (h : (resE x).2 = flt0) : x = .ok (resE x).1 := by
  cases x with
  | ok e => rfl
  | error a => exact absurd (show (4 : Int) = 0 from congrArg Flt.cls h) (by decide)
theorem res_back {s : Sh} {e : El} {n : Nd} (hn : n = nodeF s e) (h : fitsS s e = true) : (resE (elemG s n)).2 = flt0 ∧ eqE (resE (elemG s n)).1 e := by
  obtain ⟨e', h1, h2⟩ := node_back h
  rw [hn, h1]; exact ⟨rfl, h2⟩
theorem nt' {p : Prop} [Decidable p] (h : (!decide p) = true) : ¬ p := by simpa using h
theorem nf' {p : Prop} [Decidable p] (h : (!decide p) = false) : p := by simpa using h
theorem fits_congr {s : Sh} {a b : El} (h : eqE a b) : fitsS s a = fitsS s b := by
  rw [fitsS, fitsS]
  congr 1
  rw [Bool.eq_iff_iff, List.all_eq_true, List.all_eq_true]
  have key : ∀ i ∈ upto 8, a i.toNat = b i.toNat := fun i hi => by have := mem_upto.1 hi; exact h _ (by omega)
  constructor
  · intro q i hi; have := q i hi; rw [key i hi] at this; exact this
  · intro q i hi; have := q i hi; rw [← key i hi] at this; exact this
/-! ### The example -/
def exPQ : List Tx := [⟨#[112]⟩, ⟨#[113]⟩]
def exG : Sh := ⟨false, [⟨3, exPQ, twoR⟩]⟩
def exR : Nd := .mk 6 0 ⟨#[112]⟩ [⟨⟨#[113]⟩, 0⟩] []
def exNd : Nd := .mk 5 0 tx0 [] [exR]
theorem exG_R : shR exG = true := by decide +kernel
theorem exNd_C : constB exNd = true := by
  rw [const_eq]; decide +kernel
def exOk (x : Ex El) : Bool := match x with
  | .ok e => decide (eqE e (putE el0 0 1#64))
  | .error _ => false
theorem ex_ok {x : Ex El} (h : exOk x = true) : (resE x).2 = flt0 ∧ eqE (resE x).1 (putE el0 0 1#64) := by
  cases x with
  | ok e => exact ⟨rfl, of_decide_eq_true h⟩
  | error a => cases h
theorem exG_E : (resE (elemG exG exNd)).2 = flt0 ∧ eqE (resE (elemG exG exNd)).1 (putE el0 0 1#64) := by
  refine ex_ok ?_
  rw [elemG, fitN, exG_R, exNd_C]
  show exOk (if (true && true && (!false || _)) = true then elemL (exG.facs.zip (partsF exG exNd)) 0 el0 else _) = true
  rw [if_pos (by rfl)]
  decide +kernel
theorem exG_F : fitsS exG (putE el0 0 1#64) = true := by decide +kernel
theorem exG_N : nodeF exG (putE el0 0 1#64) = exNd := by
  have h1 : lst (ownersG twoR 1#64) = [0] := by decide +kernel
  have h2 : lst (readersG twoR 1#64 0) = [1] := by decide +kernel
  rw [nodeF, if_pos exG_F, if_neg (by decide)]
  show constF ⟨3, exPQ, twoR⟩ 1#64 = exNd
  rw [cf_3 rfl]
  show Nd.mk 5 0 tx0 [] ((lst (ownersG twoR 1#64)).map (ruleN ⟨3, exPQ, twoR⟩ 1#64)) = exNd
  rw [h1]
  show Nd.mk 5 0 tx0 [] [Nd.mk 6 0 (exPQ.getD 0 tx0) ((lst (readersG twoR 1#64 0)).map fun i => ⟨exPQ.getD i.toNat tx0, 0⟩) []] = exNd
  rw [h2]; rfl
theorem exG_T : tc 35 ++ textF exNd = ⟨#[35, 91, 112, 58, 123, 113, 125, 93]⟩ := bl_inj (by
  rw [bl_app, exNd, bl_5, exR]
  simp only [List.map_cons, List.map_nil, bl_6]; rfl)
theorem exG_S {e : El} (h : eqE e (putE el0 0 1#64)) : spellF exG e = ⟨#[35, 91, 112, 58, 123, 113, 125, 93]⟩ := by
  have hf : fitsS exG e = true := by
    rw [← exG_F]; exact fits_congr h
  rw [spellF, node_congr hf exG_F h, exG_N, exG_T]
end Go.Proofs.YtieckcbckgalhaaGreatDoor.E
