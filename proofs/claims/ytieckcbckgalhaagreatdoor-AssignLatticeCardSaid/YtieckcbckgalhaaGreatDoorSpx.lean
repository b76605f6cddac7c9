/-
  Nodes of elements: how they are laid, compared, and written; and how great they are.
-/
import Derived.Test.YtieckcbckgalhaaGreatDoorSpn
namespace Go.Proofs.YtieckcbckgalhaaGreatDoor.E
open Go Go.RowKit Go.Proofs.YtieckcbckgalhaaGreatDoor.M
set_option linter.unusedVariables false
theorem NodesV.nil (K : Vu) : NodesV K [] := ⟨fun x hx => by simp at hx⟩
theorem NodesV.snoc {K : Vu} {l : List NodeR} {n : NodeR} (h : NodesV K l) (hn : NodeV K n) : NodesV K (l ++ [n]) := ⟨fun x hx => by
  rcases List.mem_append.1 hx with hx | hx
  · exact h.each x hx
  · rw [List.mem_singleton.1 hx]; exact hn⟩
theorem node1_one {K : Vu} {n : NodeR} (h : NodeV K n) : ∀ u ∈ [n].flatMap nodeL, u.oneCell' = true := by simpa using nodeL_one h
def wdN (l : List Tx) (i : Int) : Wd := ⟨l.getD i.toNat tx0, 0⟩
theorem namesOf_def (l : List Tx) (w : BitVec 64) : namesOf l w = (lst w).map (wdN l) := rfl
def namedTo (l : List Tx) (w : BitVec 64) (k : Int) : List Wd := ((upto k).filter (hasB w)).map (wdN l)
theorem names_len (l : List Tx) (w : BitVec 64) : (namesOf l w).length ≤ 64 := by rw [namesOf_def, List.length_map]; exact lst_len w
/-! ### Nodes of factors -/
def nilV : Value := .slice none 0 0
def kindR (k : Int) (t : Tx) (nv : Value) (names : List Wd) : NodeR := .mk k 0 t nv names (.slice none 0 0) []
theorem kindR_v {K : Vu} {k : Int} {t : Tx} {nv : Value} {names : List Wd} (h : SlV K nv 2 names.length (names.flatMap wdL)) : NodeV K (kindR k t nv names) := .mk h (SlV.nil _ _) fun x hx => by simp at hx
def kidsR (k : Int) (kv : Value) (kids : List NodeR) : NodeR := .mk k 0 tx0 (.slice none 0 0) [] kv kids
theorem kidsR_v {K : Vu} {k : Int} {kv : Value} {kids : List NodeR} (h : SlV K kv 5 kids.length (kids.flatMap nodeL)) (hv : NodesV K kids) : NodeV K (kidsR k kv kids) := .mk (SlV.nil _ _) h hv.each
theorem kindR_nd (k : Int) (t : Tx) (nv : Value) (names : List Wd) : (kindR k t nv names).nd = .mk k 0 t names [] := by rw [nd_eq]; rfl
theorem kidsR_nd (k : Int) (kv : Value) (kids : List NodeR) : (kidsR k kv kids).nd = .mk k 0 tx0 [] (kids.map NodeR.nd) := by rw [nd_eq]; rfl
def rulesTo (f : Fc) (w : BitVec 64) (k : Int) : List Nd := ((lst (ownersG f.rel w)).take k.toNat).map (ruleN f w)
theorem rules_next {f : Fc} {w : BitVec 64} {k : Int} (h0 : 0 ≤ k) (h1 : k < (lst (ownersG f.rel w)).length) : rulesTo f w (k + 1) = rulesTo f w k ++ [ruleN f w ((lst (ownersG f.rel w)).getD k.toNat 0)] := by
  rw [rulesTo, rulesTo, take_next h0 h1, List.map_append]; rfl
theorem rules_all {f : Fc} {w : BitVec 64} {k : Int} (h : ¬ k < (lst (ownersG f.rel w)).length) : rulesTo f w k = (lst (ownersG f.rel w)).map (ruleN f w) := by rw [rulesTo, take_all h]
def ruledTo (f : Fc) (w : BitVec 64) (k : Int) : List Nd := ((upto k).filter (hasB (ownersG f.rel w))).map (ruleN f w)
theorem kind_cases {f : Fc} (hf : factorR f = true) (h2 : ¬ f.kind = 2) (h3 : ¬ f.kind = 3) (h4 : ¬ f.kind = 4) : f.kind = 1 := by
  rcases fac_kind hf with h | h | ⟨h, -⟩ | h <;> omega
theorem sub_2 {f : Fc} (h2 : f.kind = 2) {w : BitVec 64} (hw : wordF f w = true) : subB w (below f.names.length) = true := by rw [word2 h2] at hw; exact hw
theorem sub_r {f : Fc} (hf : factorR f = true) (h3 : f.kind = 3) (w : BitVec 64) (o : Int) : subB (readersG f.rel w o) (below f.names.length) = true := by rw [← (fac3 hf h3).1]; exact readers_in _ _ _
theorem own_at {f : Fc} (hf : factorR f = true) (h3 : f.kind = 3) (w : BitVec 64) {k : Int} (h0 : 0 ≤ k) (h1 : k < (lst (ownersG f.rel w)).length) : 0 ≤ (lst (ownersG f.rel w)).getD k.toNat 0 ∧ (lst (ownersG f.rel w)).getD k.toNat 0 < f.names.length := by
  have hr := fac3 hf h3
  exact lst_in (by rw [← hr.1]; exact owners_in hr.2 w) (getD_mem h0 h1)
theorem pt_in {f : Fc} (hf : factorR f = true) (h4 : f.kind = 4) {w : BitVec 64} (hw : wordF f w = true) : 0 ≤ (pointV f.rel w).1 ∧ (pointV f.rel w).1 < f.names.length := by
  obtain ⟨k, hk, e, -⟩ := at_4 hf h4 hw; omega
theorem lv_in {f : Fc} (h1 : f.kind = 1) {w : BitVec 64} (hw : wordF f w = true) : 0 ≤ (level f.names.length w).1 ∧ (level f.names.length w).1 < f.names.length := by
  obtain ⟨k, hk, e, -⟩ := at_1 h1 hw; omega
theorem nd_2 {f : Fc} (h : f.kind = 2) {w : BitVec 64} {nv : Value} : (kindR (kindN f) tx0 nv (namesOf f.names w)).nd = constF f w := by rw [kindR_nd, cf_2 h, kn_2 h]
theorem nd_3 {f : Fc} (h : f.kind = 3) {w : BitVec 64} {kv : Value} {gs : List NodeR} (hg : gs.map NodeR.nd = (lst (ownersG f.rel w)).map (ruleN f w)) : (kidsR (kindN f) kv gs).nd = constF f w := by rw [kidsR_nd, cf_3 h, kn_3 h, hg]
theorem nd_4 {f : Fc} (h : f.kind = 4) {w : BitVec 64} : (kindR (kindN f) (f.names.getD (pointV f.rel w).1.toNat tx0) (.slice none 0 0) []).nd = constF f w := by rw [kindR_nd, cf_4 h, kn_1 (by omega) (by omega)]
theorem nd_1 {f : Fc} (h2 : ¬ f.kind = 2) (h3 : ¬ f.kind = 3) (h4 : ¬ f.kind = 4) {w : BitVec 64} : (kindR (kindN f) (f.names.getD (level f.names.length w).1.toNat tx0) (.slice none 0 0) []).nd = constF f w := by rw [kindR_nd, cf_1 h2 h3 h4, kn_1 h2 h3]
theorem rule_nd {f : Fc} {w : BitVec 64} {o : Int} {nv : Value} : (kindR 6 (f.names.getD o.toNat tx0) nv (namesOf f.names (readersG f.rel w o))).nd = ruleN f w o := by rw [kindR_nd]; rfl
theorem node0_v {K : Vu} : NodeV K node0 := .mk (SlV.nil _ _) (SlV.nil _ _) fun x hx => by simp at hx
theorem node0_nd : node0.nd = nd0 := by rw [nd_eq]; rfl
theorem nodeF_no {s : Sh} {e : El} (h : fitsS s e = false) : nodeF s e = nd0 := by rw [nodeF, h]; rfl
theorem fitR {s : Shp} {e : El} (h : fitsS s.sh e = true) {k : Int} (h0 : 0 ≤ k) (h1 : k < s.facs.length) : factorR (s.facs.getD k.toNat fac0).fc = true ∧ wordF (s.facs.getD k.toNat fac0).fc (e k.toNat) = true := by
  have := fit_words h (j := k.toNat) (by rw [sh_len]; omega)
  rw [← sh_get]; exact this
theorem fit_len {s : Shp} {e : El} (h : fitsS s.sh e = true) : 1 ≤ s.facs.length ∧ s.facs.length ≤ 8 := by
  have := (sh_spec (fits_spec h).1).1; rw [sh_len] at this; exact this
theorem consts_nextR {s : Shp} {e : El} {k : Int} (h : 0 ≤ k) : constsTo s.sh e (k + 1) = constsTo s.sh e k ++ [constF (s.facs.getD k.toNat fac0).fc (e k.toNat)] := by rw [consts_next h, sh_get]
theorem nodeF_1 {s : Shp} {e : El} (h : fitsS s.sh e = true) (ht : s.tuple = false) : nodeF s.sh e = constF (s.facs.getD 0 fac0).fc (e 0) := by
  have := sh_get s 0
  rw [nodeF, if_pos h, if_neg (by show ¬ s.tuple = true; rw [ht]; decide)]
  exact congrArg (constF · (e 0)) this
theorem nodeF_t {s : Shp} {e : El} (h : fitsS s.sh e = true) (ht : s.tuple = true) {kv : Value} {gs : List NodeR} {k : Int} (hk : k = s.facs.length) (hg : gs.map NodeR.nd = constsTo s.sh e k) : (kidsR 4 kv gs).nd = nodeF s.sh e := by
  rw [kidsR_nd, nodeF, if_pos h, if_pos (show s.sh.tuple = true from ht), hg, hk, sh_len]
/-! ### How great a node's text is -/
def szF : Nd → Nat
  | .mk kind _ text names kids => (if 0 ≤ kind ∧ kind ≤ 6 then 4 else 10000000000) + text.size + (names.map fun x => x.text.size + 1).sum + (kids.attach.map fun x => szF x.1 + 1).sum
termination_by n => SizeOf.sizeOf n
decreasing_by
  have := List.sizeOf_lt_of_mem x.2
  simp only [Nd.mk.sizeOf_spec]
  omega
theorem sz_eq (n : Nd) : szF n = (if 0 ≤ n.kind ∧ n.kind ≤ 6 then 4 else 10000000000) + n.text.size + (n.names.map fun x => x.text.size + 1).sum + (n.kids.map fun x => szF x + 1).sum := by
  cases n with
  | mk k p t names kids =>
  have h : (kids.attach.map fun x => szF x.1 + 1) = kids.map fun x => szF x + 1 := by simp
  rw [szF, h]; rfl
theorem sum_mem {α : Type} (F : α → Nat) : ∀ (l : List α) {x : α}, x ∈ l → F x ≤ (l.map F).sum
  | [], x, h => by simp at h
  | y :: l, x, h => by
    rcases List.mem_cons.1 h with rfl | h
    · simp
    · have := sum_mem F l h; simp only [List.map_cons, List.sum_cons]; omega
theorem sum_mono {α : Type} {F G : α → Nat} : ∀ (l : List α), (∀ x ∈ l, F x ≤ G x) → (l.map F).sum ≤ (l.map G).sum
  | [], _ => by simp
  | y :: l, h => by
    have h1 := h y (List.mem_cons_self ..)
    have h2 := sum_mono l fun x hx => h x (List.mem_cons_of_mem _ hx)
    simp only [List.map_cons, List.sum_cons]; omega
theorem sum_take {l : List Nat} (k : Nat) : (l.take k).sum ≤ l.sum := by
  conv => rhs; rw [← List.take_append_drop k l, List.sum_append]
  omega
structure TxN (n : Nd) : Prop where
  sz : szF n ≤ 1000000000
theorem TxN.kind {n : Nd} (h : TxN n) : 0 ≤ n.kind ∧ n.kind ≤ 6 := by
  have h1 := h.sz
  rw [sz_eq] at h1
  split at h1
  · assumption
  · omega
theorem TxN.parts {n : Nd} (h : TxN n) : n.text.size + (n.names.map fun x => x.text.size + 1).sum + (n.kids.map fun x => szF x + 1).sum ≤ 999999996 := by
  have h1 := h.sz
  have h2 := h.kind
  rw [sz_eq, if_pos h2] at h1; omega
theorem TxN.kid {n : Nd} (h : TxN n) {x : Nd} (hx : x ∈ n.kids) : TxN x := ⟨by
  have h1 := h.parts
  have h2 : szF x + 1 ≤ _ := sum_mem (fun x => szF x + 1) n.kids hx
  omega⟩
theorem foldl_size : ∀ (l : List Tx) (a : Tx), (l.foldl (fun a y => a ++ tc 44 ++ y) a).size = a.size + (l.map fun x => x.size + 1).sum
  | [], a => by simp
  | y :: l, a => by
    rw [List.foldl_cons, foldl_size l, tx_size_app, tx_size_app, List.map_cons, List.sum_cons, show (tc 44).size = 1 from rfl]; omega
theorem commas_sz (l : List Tx) : (commasF l).size ≤ (l.map fun x => x.size + 1).sum := by
  cases l with
  | nil => exact Nat.le_refl _
  | cons x l =>
    show (l.foldl (fun a y => a ++ tc 44 ++ y) x).size ≤ _
    rw [foldl_size]
    simp only [List.map_cons, List.sum_cons]; omega
theorem text_sz (n : Nd) : (textF n).size ≤ szF n := nd_ind (C := fun n => (textF n).size ≤ szF n) (fun n ih => by
  rw [sz_eq, text_eq]
  have h1 : (namesT n.names).size ≤ (n.names.map fun x => x.text.size + 1).sum := by
    have := commas_sz (n.names.map Wd.text)
    rw [List.map_map] at this; exact this
  have h2 : (commasF (n.kids.map textF)).size ≤ (n.kids.map fun x => szF x + 1).sum := by
    have h3 := commas_sz (n.kids.map textF)
    rw [List.map_map] at h3
    exact Nat.le_trans h3 (sum_mono n.kids fun x hx => by have := ih x hx; simp only [Function.comp]; omega)
  have h4 : ∀ c : UInt8, (tc c).size = 1 := fun _ => rfl
  have h5 : ((⟨#[58, 123]⟩ : Tx)).size = 2 := rfl
  have h6 : tx0.size = 0 := rfl
  have h7 : 4 ≤ (if 0 ≤ n.kind ∧ n.kind ≤ 6 then 4 else 10000000000) := by split <;> omega
  split
  · omega
  · split
    · simp only [tx_size_app, h4]; omega
    · split
      · simp only [tx_size_app, h4]; omega
      · split
        · simp only [tx_size_app, h4]; omega
        · split
          · simp only [tx_size_app, h4, h5]; omega
          · omega) n
theorem TxN.text {n : Nd} (h : TxN n) : (textF n).size ≤ 1000000000 := Nat.le_trans (text_sz n) h.sz
theorem TxN.nms {n : Nd} (h : TxN n) : (n.names.map fun x => x.text.size + 1).sum ≤ 999999996 := by have := h.parts; omega
theorem TxN.kds {n : Nd} (h : TxN n) : (n.kids.map fun x => (textF x).size + 1).sum ≤ 999999996 := by
  have h1 := h.parts
  have h2 := sum_mono (F := fun x => (textF x).size + 1) (G := fun x => szF x + 1) n.kids fun x _ => by have := text_sz x; omega
  omega
theorem tsz1 (a : UInt8) : (⟨#[a]⟩ : Tx).size = 1 := rfl
theorem tsz2 (a b : UInt8) : (⟨#[a, b]⟩ : Tx).size = 2 := rfl
theorem TxN.nmT {n : Nd} (h : TxN n) : (namesT n.names).size ≤ 999999996 := by
  have h1 := commas_sz (n.names.map Wd.text)
  rw [List.map_map] at h1
  exact Nat.le_trans h1 h.nms
theorem TxN.kdT {n : Nd} (h : TxN n) : (commasF (n.kids.map textF)).size ≤ 999999996 := by
  have h1 := commas_sz (n.kids.map textF)
  rw [List.map_map] at h1
  exact Nat.le_trans h1 h.kds
theorem TxN.txT {n : Nd} (h : TxN n) : n.text.size ≤ 999999996 := by have := h.parts; omega
/-! ### The nodes of elements are small -/
theorem name_sz {t : Tx} (h : nameR t = true) : t.size ≤ 16 := by
  rw [nameR, Bool.and_eq_true, Bool.and_eq_true, decide_eq_true_eq] at h; exact h.1.1.2
theorem sum_bd {α : Type} {F : α → Nat} {m : Nat} : ∀ (l : List α), (∀ x ∈ l, F x ≤ m) → (l.map F).sum ≤ m * l.length
  | [], _ => by simp
  | y :: l, h => by
    have h1 := h y (List.mem_cons_self ..)
    have h2 := sum_bd l fun x hx => h x (List.mem_cons_of_mem _ hx)
    simp only [List.map_cons, List.sum_cons, List.length_cons]
    rw [Nat.mul_add]; omega
theorem names_sz {l : List Tx} (h : namedF l = true) (w : BitVec 64) : ((namesOf l w).map fun x => x.text.size + 1).sum ≤ 17 * 64 := by
  have h1 := sum_bd (F := fun x : Wd => x.text.size + 1) (m := 17) (namesOf l w) fun x hx => by
    rw [namesOf, List.mem_map] at hx
    obtain ⟨i, hi, rfl⟩ := hx
    show (l.getD i.toNat tx0).size + 1 ≤ 17
    rw [List.getD_eq_getElem?_getD]
    cases hq : l[i.toNat]? with
    | none => exact Nat.le_of_lt_succ (by decide)
    | some t => have := name_sz ((named_spec h).2.2 t (List.mem_of_getElem? hq)); simp only [Option.getD_some]; omega
  have h2 := names_len l w
  exact Nat.le_trans h1 (Nat.mul_le_mul_left _ h2)
theorem nameD_sz {l : List Tx} (h : namedF l = true) (i : Nat) : (l.getD i tx0).size ≤ 16 := by
  rw [List.getD_eq_getElem?_getD]
  cases hq : l[i]? with
  | none => exact Nat.zero_le _
  | some t => exact name_sz ((named_spec h).2.2 t (List.mem_of_getElem? hq))
theorem rule_sz {f : Fc} (h : namedF f.names = true) (w : BitVec 64) (o : Int) : szF (ruleN f w o) ≤ 2000 := by
  have h1 := names_sz h (readersG f.rel w o)
  have h2 := nameD_sz h o.toNat
  rw [sz_eq]
  show (if 0 ≤ (6 : Int) ∧ (6 : Int) ≤ 6 then 4 else 10000000000) + (f.names.getD o.toNat tx0).size + ((namesOf f.names (readersG f.rel w o)).map fun x => x.text.size + 1).sum + 0 ≤ 2000
  rw [if_pos (by decide)]; omega
theorem const_sz {f : Fc} (h : namedF f.names = true) (w : BitVec 64) : szF (constF f w) ≤ 200000 := by
  have h1 := names_sz h w
  rw [constF]
  split
  · rw [sz_eq]
    show (if 0 ≤ (3 : Int) ∧ (3 : Int) ≤ 6 then 4 else 10000000000) + 0 + ((namesOf f.names w).map fun x => x.text.size + 1).sum + 0 ≤ 200000
    rw [if_pos (by decide)]; omega
  · split
    · rw [sz_eq]
      show (if 0 ≤ (5 : Int) ∧ (5 : Int) ≤ 6 then 4 else 10000000000) + 0 + 0 + (((lst (ownersG f.rel w)).map (ruleN f w)).map fun x => szF x + 1).sum ≤ 200000
      have h2 := sum_bd (F := fun x => szF x + 1) (m := 2001) ((lst (ownersG f.rel w)).map (ruleN f w)) fun x hx => by
        rw [List.mem_map] at hx
        obtain ⟨o, -, rfl⟩ := hx
        have := rule_sz h w o; omega
      have h3 := lst_len (ownersG f.rel w)
      rw [List.length_map] at h2
      have h4 := Nat.mul_le_mul_left 2001 h3
      rw [if_pos (by decide)]; omega
    · split
      · have h2 := nameD_sz h (pointV f.rel w).1.toNat
        rw [sz_eq]
        show (if 0 ≤ (2 : Int) ∧ (2 : Int) ≤ 6 then 4 else 10000000000) + (f.names.getD (pointV f.rel w).1.toNat tx0).size + 0 + 0 ≤ 200000
        rw [if_pos (by decide)]; omega
      · have h2 := nameD_sz h (level f.names.length w).1.toNat
        rw [sz_eq]
        show (if 0 ≤ (2 : Int) ∧ (2 : Int) ≤ 6 then 4 else 10000000000) + (f.names.getD (level f.names.length w).1.toNat tx0).size + 0 + 0 ≤ 200000
        rw [if_pos (by decide)]; omega
theorem node_sz (s : Sh) (e : El) : szF (nodeF s e) ≤ 2000000 := by
  rw [nodeF]
  split
  · rename_i h
    have hs := sh_spec (fits_spec h).1
    split
    · rw [sz_eq]
      show (if 0 ≤ (4 : Int) ∧ (4 : Int) ≤ 6 then 4 else 10000000000) + 0 + 0 + ((constsTo s e s.facs.length).map fun x => szF x + 1).sum ≤ 2000000
      have h2 := sum_bd (F := fun x => szF x + 1) (m := 200001) (constsTo s e s.facs.length) fun x hx => by
        rw [constsTo, List.mem_map] at hx
        obtain ⟨i, hi, rfl⟩ := hx
        have hi := mem_upto.1 hi
        have := const_sz (fac_named (sh_at (fits_spec h).1 hi.1 hi.2)) (e i.toNat); omega
      rw [consts_len] at h2
      have h4 := Nat.mul_le_mul_left 200001 hs.1.2
      rw [if_pos (by decide)]; omega
    · have := const_sz (fac_named (sh_at (fits_spec h).1 (k := 0) (by omega) (by omega))) (e 0)
      exact Nat.le_trans this (by omega)
  · rw [sz_eq]; exact Nat.le_of_lt_succ (by decide)
theorem node_tx (s : Sh) (e : El) : TxN (nodeF s e) := ⟨Nat.le_trans (node_sz s e) (by omega)⟩
/-! ### Commas, step by step -/
def commasTo (T : Int → Tx) (k : Int) : Tx := commasF ((upto k).map T)
theorem commas_1 {T : Int → Tx} {k : Int} (h : k = 0) : commasTo T k ++ T k = commasTo T (k + 1) := by
  subst h
  show commasF [] ++ T 0 = commasF [T 0]
  show tx0 ++ T 0 = T 0
  exact bl_inj (by rw [bl_app]; rfl)
theorem commas_2 {T : Int → Tx} {k : Int} (h0 : 0 < k) : commasTo T k ++ tc 44 ++ T k = commasTo T (k + 1) := by
  rw [commasTo, commasTo, ← upto_succ (by omega), List.map_append]
  have : ∃ x l, (upto k).map T = x :: l := by
    cases hc : (upto k).map T with
    | nil => have := congrArg List.length hc; rw [List.length_map, upto_len] at this; simp at this; omega
    | cons x l => exact ⟨x, l, rfl⟩
  obtain ⟨x, l, e⟩ := this
  rw [e]
  show l.foldl _ x ++ tc 44 ++ T k = (l ++ [T k]).foldl _ x
  rw [List.foldl_append]; rfl
theorem T_sz (T : Int → Tx) {k n : Int} (h0 : 0 ≤ k) (hk : k < n) : (commasTo T k).size + (T k).size + 1 ≤ ((upto n).map fun i => (T i).size + 1).sum := by
  have h1 := commas_sz ((upto k).map T)
  rw [List.map_map] at h1
  have h2 : upto (k + 1) = (upto n).take (k + 1).toNat := by
    rw [upto, upto, ← List.map_take, List.take_range, Nat.min_eq_left (by omega)]
  have h3 : ((upto (k + 1)).map fun i => (T i).size + 1).sum ≤ ((upto n).map fun i => (T i).size + 1).sum := by
    rw [h2, List.map_take]; exact sum_take _
  rw [← upto_succ h0, List.map_append, List.sum_append] at h3
  simp only [List.map_cons, List.map_nil, List.sum_cons, List.sum_nil] at h3
  have h4 : (commasTo T k).size ≤ ((upto k).map fun i => (T i).size + 1).sum := h1
  omega
theorem upto_map {α β : Type} (l : List α) (d : α) (F : α → β) : (upto l.length).map (fun i => F (l.getD i.toNat d)) = l.map F := by
  rw [upto, List.map_map]
  refine List.ext_getElem? fun j => ?_
  rw [List.getElem?_map, List.getElem?_map]
  by_cases hj : j < l.length
  · rw [List.getElem?_range (by omega), List.getElem?_eq_getElem hj]
    simp only [Option.map_some, Function.comp]
    rw [Int.toNat_natCast, List.getD_eq_getElem?_getD, List.getElem?_eq_getElem hj]; rfl
  · rw [List.getElem?_eq_none (by rw [List.length_range]; omega), List.getElem?_eq_none (by omega)]; rfl
theorem names_commas (n : NodeR) : commasTo (fun i => (n.names.getD i.toNat wd0).text) n.names.length = namesT n.nd.names := by
  rw [commasTo, upto_map n.names wd0 Wd.text, namesT, nd_names]
theorem kids_commas (n : NodeR) : commasTo (fun i => textF (n.kids.getD i.toNat node0).nd) n.kids.length = commasF (n.nd.kids.map textF) := by
  rw [commasTo, upto_map n.kids node0 (fun x => textF x.nd), nd_kids, List.map_map]; rfl
theorem names_bd {n : NodeR} (h : TxN n.nd) : ((upto n.names.length).map fun i => (n.names.getD i.toNat wd0).text.size + 1).sum ≤ 999999996 := by
  rw [upto_map n.names wd0 (fun x => x.text.size + 1)]
  have := h.nms; rw [nd_names] at this; exact this
theorem kids_bd {n : NodeR} (h : TxN n.nd) : ((upto n.kids.length).map fun i => (textF (n.kids.getD i.toNat node0).nd).size + 1).sum ≤ 999999996 := by
  rw [upto_map n.kids node0 (fun x => (textF x.nd).size + 1)]
  have := h.kds; rw [nd_kids, List.map_map] at this; exact this
theorem tx_0app (a : Tx) : tx0 ++ a = a := bl_inj (by rw [bl_app]; rfl)
def kidT (l : List NodeR) (i : Int) : Tx := textF (l.getD i.toNat node0).nd
def wdT (l : List Wd) (i : Int) : Tx := (l.getD i.toNat wd0).text
theorem TxN.kidR {n : NodeR} (h : TxN n.nd) {x : NodeR} (hx : x ∈ n.kids) : TxN x.nd := h.kid (by rw [nd_kids]; exact List.mem_map_of_mem hx)
end Go.Proofs.YtieckcbckgalhaaGreatDoor.E
