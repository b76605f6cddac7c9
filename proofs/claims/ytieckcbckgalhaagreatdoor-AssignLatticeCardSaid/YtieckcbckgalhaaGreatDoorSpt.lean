/-
  Texts of constants: they tell elements apart, whatever stands behind them.
-/
import Derived.Test.YtieckcbckgalhaaGreatDoorSpb
namespace Go.Proofs.YtieckcbckgalhaaGreatDoor.E
open Go Go.RowKit Go.Proofs.YtieckcbckgalhaaGreatDoor.M
set_option linter.unusedVariables false
abbrev By := List UInt8
def bl (t : Tx) : By := t.data.toList
theorem bl_app (a b : Tx) : bl (a ++ b) = bl a ++ bl b := tx_app_data a b
theorem bl_tc (c : UInt8) : bl (tc c) = [c] := rfl
theorem bl_inj {a b : Tx} (h : bl a = bl b) : a = b := by
  obtain ⟨⟨a⟩⟩ := a; obtain ⟨⟨b⟩⟩ := b
  have : a = b := h
  rw [this]
def goU (b : UInt8) : Bool := goesB (b.toNat : Int)
def Ds (x : By) : Prop := ∀ b r, x = b :: r → goU b = false
theorem Ds.nil : Ds [] := fun b r h => by cases h
theorem Ds.cons {d : UInt8} (h : goU d = false) (x : By) : Ds (d :: x) := fun b r e => by cases e; exact h
theorem cut_eq {P : UInt8 → Bool} : ∀ {u v x y : By}, (∀ b ∈ u, P b = false) → (∀ b ∈ v, P b = false) → (∀ b r, x = b :: r → P b = true) → (∀ b r, y = b :: r → P b = true) → u ++ x = v ++ y → u = v ∧ x = y
  | [], [], x, y, _, _, _, _, h => ⟨rfl, h⟩
  | [], b :: v, x, y, _, hv, hx, _, h => by
    have := hx b (v ++ y) h
    rw [hv b (List.mem_cons_self ..)] at this; cases this
  | a :: u, [], x, y, hu, _, _, hy, h => by
    have := hy a (u ++ x) h.symm
    rw [hu a (List.mem_cons_self ..)] at this; cases this
  | a :: u, b :: v, x, y, hu, hv, hx, hy, h => by
    rw [List.cons_append, List.cons_append, List.cons.injEq] at h
    obtain ⟨rfl, h2⟩ := h
    obtain ⟨rfl, h3⟩ := cut_eq (fun c hc => hu c (List.mem_cons_of_mem _ hc)) (fun c hc => hv c (List.mem_cons_of_mem _ hc)) hx hy h2
    exact ⟨rfl, h3⟩
theorem name_bytes {t : Tx} (h : nameR t = true) : (∀ b ∈ bl t, goU b = true) ∧ ∃ b r, bl t = b :: r := by
  rw [nameR, Bool.and_eq_true, Bool.and_eq_true, decide_eq_true_eq, List.all_eq_true] at h
  have hl : (bl t).length = t.size := rfl
  constructor
  · intro b hb
    obtain ⟨i, hi, rfl⟩ := List.getElem_of_mem hb
    have := h.2 (i : Int) (mem_upto.2 (by omega))
    rw [byteAt, Int.toNat_natCast, List.getD_eq_getElem?_getD, show t.data.toList[i]? = some (bl t)[i] from List.getElem?_eq_getElem hi] at this
    exact this
  · cases hc : bl t with
    | nil => rw [hc] at hl; simp at hl; omega
    | cons b r => exact ⟨b, r, rfl⟩
theorem name_cut {s t : Tx} {x y : By} (hs : nameR s = true) (ht : nameR t = true) (hx : Ds x) (hy : Ds y) (h : bl s ++ x = bl t ++ y) : s = t ∧ x = y := by
  obtain ⟨h1, h2⟩ := cut_eq (P := fun b => !goU b) (fun b hb => by rw [(name_bytes hs).1 b hb]; rfl) (fun b hb => by rw [(name_bytes ht).1 b hb]; rfl) (fun b r e => by rw [hx b r e]; rfl) (fun b r e => by rw [hy b r e]; rfl) h
  exact ⟨bl_inj h1, h2⟩
/-! ### Lists with commas -/
def comT (l : List By) : By := l.flatMap fun y => 44 :: y
def comL : List By → By
  | [] => []
  | x :: l => x ++ comT l
theorem commas_bl (l : List Tx) : bl (commasF l) = comL (l.map bl) := by
  cases l with
  | nil => rfl
  | cons x l =>
    have key : ∀ (l : List Tx) (a : Tx), bl (l.foldl (fun a y => a ++ tc 44 ++ y) a) = bl a ++ comT (l.map bl) := fun l => by
      induction l with
      | nil => intro a; simp [comT]
      | cons y l ih => intro a; rw [List.foldl_cons, ih, bl_app, bl_app]; simp [comT, bl_tc]
    exact key l x
section
variable {Q : By → Prop} (hQ : ∀ u v, Q u → Q v → ∀ x y, Ds x → Ds y → u ++ x = v ++ y → u = v ∧ x = y) {d : UInt8} (hd : goU d = false) (h44 : d ≠ 44)
include hQ hd h44
theorem tail_cut : ∀ (us vs : List By), (∀ u ∈ us, Q u) → (∀ v ∈ vs, Q v) → ∀ x y, comT us ++ d :: x = comT vs ++ d :: y → us = vs ∧ x = y
  | [], [], _, _, x, y, h => by
    have : d :: x = d :: y := h
    exact ⟨rfl, (List.cons.inj this).2⟩
  | [], v :: vs, _, _, x, y, h => by
    have : d :: x = 44 :: (v ++ comT vs ++ d :: y) := by simpa [comT] using h
    exact absurd (List.cons.inj this).1 h44
  | u :: us, [], _, _, x, y, h => by
    have : 44 :: (u ++ comT us ++ d :: x) = d :: y := by simpa [comT] using h
    exact absurd (List.cons.inj this).1.symm h44
  | u :: us, v :: vs, hu, hv, x, y, h => by
    have h1 : u ++ (comT us ++ d :: x) = v ++ (comT vs ++ d :: y) := by simpa [comT] using h
    have hds : ∀ (l : List By) z, Ds (comT l ++ d :: z) := fun l z => by
      cases l with
      | nil => exact Ds.cons hd z
      | cons a l => exact Ds.cons (by decide) _
    obtain ⟨rfl, h2⟩ := hQ u v (hu u (List.mem_cons_self ..)) (hv v (List.mem_cons_self ..)) _ _ (hds us x) (hds vs y) h1
    obtain ⟨rfl, h3⟩ := tail_cut us vs (fun w hw => hu w (List.mem_cons_of_mem _ hw)) (fun w hw => hv w (List.mem_cons_of_mem _ hw)) x y h2
    exact ⟨rfl, h3⟩
theorem com_cut (hne : ∀ u, Q u → ∃ b r, u = b :: r ∧ goU b = true) (us vs : List By) (hu : ∀ u ∈ us, Q u) (hv : ∀ v ∈ vs, Q v) (x y : By) (h : comL us ++ d :: x = comL vs ++ d :: y) : us = vs ∧ x = y := by
  match us, vs, hu, hv, h with
  | [], [], _, _, h => exact ⟨rfl, (List.cons.inj (show d :: x = d :: y from h)).2⟩
  | [], v :: vs, _, hv, h =>
    obtain ⟨b, r, rfl, hb⟩ := hne v (hv v (List.mem_cons_self ..))
    have : d = b := (List.cons.inj (show d :: x = b :: (r ++ comT vs ++ d :: y) by simpa [comL] using h)).1
    rw [← this, hd] at hb; cases hb
  | u :: us, [], hu, _, h =>
    obtain ⟨b, r, rfl, hb⟩ := hne u (hu u (List.mem_cons_self ..))
    have : b = d := (List.cons.inj (show b :: (r ++ comT us ++ d :: x) = d :: y by simpa [comL] using h)).1
    rw [this, hd] at hb; cases hb
  | u :: us, v :: vs, hu, hv, h =>
    refine tail_cut hQ hd h44 (u :: us) (v :: vs) hu hv x y ?_
    have h1 : u ++ (comT us ++ d :: x) = v ++ (comT vs ++ d :: y) := by simpa [comL] using h
    show (44 :: u ++ comT us) ++ d :: x = (44 :: v ++ comT vs) ++ d :: y
    simp only [List.cons_append, List.append_assoc, h1]
end
theorem names_cut {ws vs : List Tx} (hw : ∀ t ∈ ws, nameR t = true) (hv : ∀ t ∈ vs, nameR t = true) {d : UInt8} (hd : goU d = false) (h44 : d ≠ 44) {x y : By} (h : comL (ws.map bl) ++ d :: x = comL (vs.map bl) ++ d :: y) : ws = vs ∧ x = y := by
  obtain ⟨h1, h2⟩ := com_cut (Q := fun u => ∃ t, nameR t = true ∧ u = bl t) (fun u v ⟨s, hs, es⟩ ⟨t, ht, et⟩ x y hx hy e => by
      subst es et
      obtain ⟨rfl, h⟩ := name_cut hs ht hx hy e
      exact ⟨rfl, h⟩) hd h44 (fun u ⟨s, hs, es⟩ => by
        obtain ⟨h1, b, r, e⟩ := name_bytes hs
        exact ⟨b, r, es.trans e, h1 b (by rw [e]; exact List.mem_cons_self ..)⟩) (ws.map bl) (vs.map bl)
    (fun u hu => by obtain ⟨t, ht, rfl⟩ := List.mem_map.1 hu; exact ⟨t, hw t ht, rfl⟩) (fun u hu => by obtain ⟨t, ht, rfl⟩ := List.mem_map.1 hu; exact ⟨t, hv t ht, rfl⟩) x y h
  refine ⟨?_, h2⟩
  have key : ∀ (a b : List Tx), a.map bl = b.map bl → a = b := fun a => by
    induction a with
    | nil => intro b h; cases b with
      | nil => rfl
      | cons c b => cases h
    | cons c a ih => intro b h; cases b with
      | nil => cases h
      | cons e b =>
        rw [List.map_cons, List.map_cons, List.cons.injEq] at h
        rw [bl_inj h.1, ih b h.2]
  exact key _ _ h1
/-! ### Texts of nodes -/
theorem bl_2 (p : Int) (t : Tx) (ws : List Wd) (ks : List Nd) : textF (.mk 2 p t ws ks) = t := by rw [text_eq]; exact if_pos (.inr rfl)
theorem bl_3 (p : Int) (t : Tx) (ws : List Wd) (ks : List Nd) : bl (textF (.mk 3 p t ws ks)) = 123 :: (comL ((ws.map Wd.text).map bl) ++ [125]) := by
  rw [text_eq]
  show bl (if (3 : Int) = 1 ∨ (3 : Int) = 2 then t else if (3 : Int) = 3 then tc 123 ++ namesT ws ++ tc 125 else _) = _
  rw [if_neg (by decide), if_pos rfl, bl_app, bl_app, namesT, commas_bl]; rfl
theorem bl_4 (p : Int) (t : Tx) (ws : List Wd) (ks : List Nd) : bl (textF (.mk 4 p t ws ks)) = 40 :: (comL (ks.map fun n => bl (textF n)) ++ [41]) := by
  rw [text_eq]
  show bl (if (4 : Int) = 1 ∨ (4 : Int) = 2 then t else if (4 : Int) = 3 then _ else if (4 : Int) = 4 then tc 40 ++ commasF (ks.map textF) ++ tc 41 else _) = _
  rw [if_neg (by decide), if_neg (by decide), if_pos rfl, bl_app, bl_app, commas_bl, List.map_map]; rfl
theorem bl_5 (p : Int) (t : Tx) (ws : List Wd) (ks : List Nd) : bl (textF (.mk 5 p t ws ks)) = 91 :: (comL (ks.map fun n => bl (textF n)) ++ [93]) := by
  rw [text_eq]
  show bl (if (5 : Int) = 1 ∨ (5 : Int) = 2 then t else if (5 : Int) = 3 then _ else if (5 : Int) = 4 then _ else if (5 : Int) = 5 then tc 91 ++ commasF (ks.map textF) ++ tc 93 else _) = _
  rw [if_neg (by decide), if_neg (by decide), if_neg (by decide), if_pos rfl, bl_app, bl_app, commas_bl, List.map_map]; rfl
theorem bl_6 (p : Int) (t : Tx) (ws : List Wd) (ks : List Nd) : bl (textF (.mk 6 p t ws ks)) = bl t ++ 58 :: 123 :: (comL ((ws.map Wd.text).map bl) ++ [125]) := by
  rw [text_eq]
  show bl (if (6 : Int) = 1 ∨ (6 : Int) = 2 then t else if (6 : Int) = 3 then _ else if (6 : Int) = 4 then _ else if (6 : Int) = 5 then _ else if (6 : Int) = 6 then t ++ ⟨#[58, 123]⟩ ++ namesT ws ++ tc 125 else _) = _
  rw [if_neg (by decide), if_neg (by decide), if_neg (by decide), if_neg (by decide), if_pos rfl, bl_app, bl_app, bl_app, namesT, commas_bl]
  show (bl t ++ [58, 123] ++ _) ++ [125] = _
  simp
def wd_ (t : Tx) : Wd := ⟨t, 0⟩
theorem texts_wd (ws : List Tx) : (ws.map wd_).map Wd.text = ws := by rw [List.map_map]; exact List.map_id _
def Rn (n : Nd) : Prop := ∃ (t : Tx) (ws : List Tx), n = .mk 6 0 t (ws.map wd_) [] ∧ nameR t = true ∧ ∀ u ∈ ws, nameR u = true
theorem rule_cut {m n : Nd} (hm : Rn m) (hn : Rn n) {x y : By} (h : bl (textF m) ++ x = bl (textF n) ++ y) : m = n ∧ x = y := by
  obtain ⟨t, ws, rfl, ht, hw⟩ := hm
  obtain ⟨t', ws', rfl, ht', hw'⟩ := hn
  rw [bl_6, bl_6, texts_wd, texts_wd, List.append_assoc, List.append_assoc] at h
  obtain ⟨rfl, h2⟩ := name_cut ht ht' (Ds.cons (by decide) _) (Ds.cons (by decide) _) h
  have h3 : comL (ws.map bl) ++ 125 :: x = comL (ws'.map bl) ++ 125 :: y := by simpa using h2
  obtain ⟨rfl, rfl⟩ := names_cut hw hw' (by decide) (by decide) h3
  exact ⟨rfl, rfl⟩
theorem rule_first {n : Nd} (h : Rn n) : ∃ b r, bl (textF n) = b :: r ∧ goU b = true := by
  obtain ⟨t, ws, rfl, ht, hw⟩ := h
  obtain ⟨h1, b, r, e⟩ := name_bytes ht
  rw [bl_6, e]
  exact ⟨b, _, rfl, h1 b (by rw [e]; exact List.mem_cons_self ..)⟩
theorem rules_cut {ms ns : List Nd} (hm : ∀ n ∈ ms, Rn n) (hn : ∀ n ∈ ns, Rn n) {x y : By} (h : comL (ms.map fun n => bl (textF n)) ++ 93 :: x = comL (ns.map fun n => bl (textF n)) ++ 93 :: y) : ms = ns ∧ x = y := by
  obtain ⟨h1, h2⟩ := com_cut (Q := fun u => ∃ n, Rn n ∧ u = bl (textF n)) (fun u v ⟨m, hm, em⟩ ⟨n, hn, en⟩ x y hx hy e => by
      subst em en
      obtain ⟨rfl, h⟩ := rule_cut hm hn e
      exact ⟨rfl, h⟩) (d := 93) (by decide) (by decide) (fun u ⟨m, hm, em⟩ => by
        obtain ⟨b, r, e, hb⟩ := rule_first hm
        exact ⟨b, r, em.trans e, hb⟩) (ms.map fun n => bl (textF n)) (ns.map fun n => bl (textF n))
    (fun u hu => by obtain ⟨n, h, rfl⟩ := List.mem_map.1 hu; exact ⟨n, hm n h, rfl⟩) (fun u hu => by obtain ⟨n, h, rfl⟩ := List.mem_map.1 hu; exact ⟨n, hn n h, rfl⟩) x y h
  refine ⟨?_, h2⟩
  have key : ∀ (a b : List Nd), (∀ n ∈ a, Rn n) → (∀ n ∈ b, Rn n) → (a.map fun n => bl (textF n)) = (b.map fun n => bl (textF n)) → a = b := fun a => by
    induction a with
    | nil => intro b _ _ h; cases b with
      | nil => rfl
      | cons c b => cases h
    | cons c a ih => intro b ha hb h; cases b with
      | nil => cases h
      | cons e b =>
        rw [List.map_cons, List.map_cons, List.cons.injEq] at h
        have h3 := (rule_cut (ha c (List.mem_cons_self ..)) (hb e (List.mem_cons_self ..)) (x := []) (y := []) (by rw [h.1])).1
        rw [h3, ih b (fun n hn => ha n (List.mem_cons_of_mem _ hn)) (fun n hn => hb n (List.mem_cons_of_mem _ hn)) h.2]
  exact key _ _ hm hn h1
theorem namesOf_wd (l : List Tx) (w : BitVec 64) : namesOf l w = ((lst w).map fun i => l.getD i.toNat tx0).map wd_ := by rw [namesOf, List.map_map]; rfl
theorem namesOf_name {l : List Tx} (h : namedF l = true) {w : BitVec 64} (hw : subB w (below l.length) = true) : ∀ t ∈ (lst w).map fun i => l.getD i.toNat tx0, nameR t = true := fun t ht => by
  rw [List.mem_map] at ht
  obtain ⟨i, hi, rfl⟩ := ht
  have := lst_in hw hi
  exact name_at h this.1 this.2
theorem sep_f {f : Fc} (hf : factorR f = true) {w w' : BitVec 64} (hw : wordF f w = true) (hw' : wordF f w' = true) {x y : By} (hx : Ds x) (hy : Ds y) (h : bl (textF (constF f w)) ++ x = bl (textF (constF f w')) ++ y) : w = w' ∧ x = y := by
  have hn := fac_named hf
  suffices hs : constF f w = constF f w' ∧ x = y by
    refine ⟨?_, hs.2⟩
    have h1 := (back_f hf hw).1
    rw [hs.1, (back_f hf hw').1] at h1
    exact (Except.ok.inj h1).symm
  rcases fac_kind hf with h1 | h2 | ⟨h3, -⟩ | h4
  · obtain ⟨k, hk, e, -⟩ := at_1 h1 hw
    obtain ⟨k', hk', e', -⟩ := at_1 h1 hw'
    rw [cf_1 (by omega) (by omega) (by omega), cf_1 (by omega) (by omega) (by omega), e, e', bl_2, bl_2] at h
    rw [cf_1 (by omega) (by omega) (by omega), cf_1 (by omega) (by omega) (by omega), e, e']
    obtain ⟨h5, h6⟩ := name_cut (name_at hn hk.1 hk.2) (name_at hn hk'.1 hk'.2) hx hy h
    exact ⟨by rw [h5], h6⟩
  · rw [word2 h2] at hw hw'
    rw [cf_2 h2, cf_2 h2, bl_3, bl_3, namesOf_wd, namesOf_wd, texts_wd, texts_wd] at h
    rw [cf_2 h2, cf_2 h2, namesOf_wd, namesOf_wd]
    obtain ⟨h5, h6⟩ := names_cut (d := 125) (x := x) (y := y) (namesOf_name hn hw) (namesOf_name hn hw') (by decide) (by decide) (by simpa using h)
    exact ⟨by rw [h5], h6⟩
  · have hr := fac3 hf h3
    have hrn : ∀ w, ∀ n ∈ (lst (ownersG f.rel w)).map (ruleN f w), Rn n := fun w n hn2 => by
      rw [List.mem_map] at hn2
      obtain ⟨o, ho, rfl⟩ := hn2
      have := lst_in (by rw [← hr.1]; exact owners_in hr.2 w) ho
      exact ⟨_, _, by rw [ruleN, namesOf_wd], name_at hn this.1 this.2, namesOf_name hn (by rw [← hr.1]; exact readers_in _ _ _)⟩
    rw [cf_3 h3, cf_3 h3, bl_5, bl_5] at h
    rw [cf_3 h3, cf_3 h3]
    obtain ⟨h5, h6⟩ := rules_cut (x := x) (y := y) (hrn w) (hrn w') (by simpa using h)
    exact ⟨by rw [h5], h6⟩
  · obtain ⟨k, hk, e, -⟩ := at_4 hf h4 hw
    obtain ⟨k', hk', e', -⟩ := at_4 hf h4 hw'
    rw [cf_4 h4, cf_4 h4, e, e', bl_2, bl_2] at h
    rw [cf_4 h4, cf_4 h4, e, e']
    obtain ⟨h5, h6⟩ := name_cut (name_at hn hk.1 hk.2) (name_at hn hk'.1 hk'.2) hx hy h
    exact ⟨by rw [h5], h6⟩
def wtx (a : El) : List Fc → Nat → List By
  | [], _ => []
  | f :: r, i => bl (textF (constF f (a i))) :: wtx a r (i + 1)
theorem wtx_get (a : El) : ∀ (l : List Fc) (i j : Nat), (wtx a l i)[j]? = (l[j]?).map fun f => bl (textF (constF f (a (i + j))))
  | [], i, j => by simp [wtx]
  | f :: r, i, 0 => by simp [wtx]
  | f :: r, i, j + 1 => by
    rw [wtx, List.getElem?_cons_succ, wtx_get a r (i + 1) j, List.getElem?_cons_succ, show i + 1 + j = i + (j + 1) by omega]
theorem wtx_consts (s : Sh) (e : El) : ((constsTo s e s.facs.length).map fun n => bl (textF n)) = wtx e s.facs 0 := List.ext_getElem? fun j => by
  rw [wtx_get, List.getElem?_map, Nat.zero_add]
  by_cases hj : j < s.facs.length
  · rw [consts_get hj, List.getElem?_eq_getElem hj, List.getD_eq_getElem?_getD, List.getElem?_eq_getElem hj]; rfl
  · rw [List.getElem?_eq_none (by rw [consts_len]; omega), List.getElem?_eq_none (by omega)]; rfl
theorem wtx_cut {a b : El} : ∀ (l : List Fc) (i : Nat), (∀ (j : Nat) f, l[j]? = some f → factorR f = true ∧ wordF f (a (i + j)) = true ∧ wordF f (b (i + j)) = true) → ∀ x y, comT (wtx a l i) ++ 41 :: x = comT (wtx b l i) ++ 41 :: y → (∀ j, j < l.length → a (i + j) = b (i + j)) ∧ x = y
  | [], i, _, x, y, h => ⟨fun j hj => by simp at hj, (List.cons.inj (show (41 : UInt8) :: x = 41 :: y from h)).2⟩
  | f :: r, i, hl, x, y, h => by
    have h0 := hl 0 f rfl
    have h1 : bl (textF (constF f (a i))) ++ (comT (wtx a r (i + 1)) ++ 41 :: x) = bl (textF (constF f (b i))) ++ (comT (wtx b r (i + 1)) ++ 41 :: y) := by simpa [comT, wtx] using h
    have hds : ∀ (l : List By) z, Ds (comT l ++ 41 :: z) := fun l z => by
      cases l with
      | nil => exact Ds.cons (by decide) z
      | cons a l => exact Ds.cons (by decide) _
    obtain ⟨h2, h3⟩ := sep_f h0.1 h0.2.1 h0.2.2 (hds _ _) (hds _ _) h1
    obtain ⟨h4, h5⟩ := wtx_cut r (i + 1) (fun j g hg => by rw [show i + 1 + j = i + (j + 1) by omega]; exact hl (j + 1) g (by simpa using hg)) x y h3
    refine ⟨fun j hj => ?_, h5⟩
    match j with
    | 0 => exact h2
    | j + 1 => rw [show i + (j + 1) = i + 1 + j by omega]; exact h4 j (by simpa using hj)
theorem spell_sep {s : Sh} {a b : El} (ha : fitsS s a = true) (hb : fitsS s b = true) {x y : By} (hx : Ds x) (hy : Ds y) (h : bl (textF (nodeF s a)) ++ x = bl (textF (nodeF s b)) ++ y) : eqE a b ∧ x = y := by
  have h1 := fits_spec ha
  have h1b := fits_spec hb
  have h2 := sh_spec h1.1
  suffices hs : (∀ j : Nat, j < s.facs.length → a j = b j) ∧ x = y by
    refine ⟨fun i hi => ?_, hs.2⟩
    by_cases hl : i < s.facs.length
    · exact hs.1 i hl
    · rw [(h1.2 i hi).2 (by omega), (h1b.2 i hi).2 (by omega)]
  rw [nodeF, nodeF, if_pos ha, if_pos hb] at h
  by_cases ht : s.tuple = true
  · rw [if_pos ht, if_pos ht, bl_4, bl_4, wtx_consts, wtx_consts] at h
    have h3 : comL (wtx a s.facs 0) ++ 41 :: x = comL (wtx b s.facs 0) ++ 41 :: y := by simpa using h
    have h4 : comT (wtx a s.facs 0) ++ 41 :: x = comT (wtx b s.facs 0) ++ 41 :: y := by
      cases hc : s.facs with
      | nil => rw [hc] at h2; simp at h2
      | cons f r =>
        rw [hc] at h3
        have h5 : bl (textF (constF f (a 0))) ++ (comT (wtx a r 1) ++ 41 :: x) = bl (textF (constF f (b 0))) ++ (comT (wtx b r 1) ++ 41 :: y) := by simpa [comL, wtx] using h3
        show (44 :: bl (textF (constF f (a 0))) ++ comT (wtx a r 1)) ++ 41 :: x = (44 :: bl (textF (constF f (b 0))) ++ comT (wtx b r 1)) ++ 41 :: y
        simp only [List.cons_append, List.append_assoc, h5]
    obtain ⟨h5, h6⟩ := wtx_cut s.facs 0 (fun j f hf => by
      have hj := (List.getElem?_eq_some_iff.1 hf).1
      have e : s.facs.getD j fc0 = f := by rw [List.getD_eq_getElem?_getD, hf]; rfl
      have q1 := fit_words ha hj; have q2 := fit_words hb hj
      rw [e] at q1 q2; rw [Nat.zero_add]
      exact ⟨q1.1, q1.2, q2.2⟩) x y h4
    exact ⟨fun j hj => by have := h5 j hj; rwa [Nat.zero_add] at this, h6⟩
  · rw [if_neg ht, if_neg ht] at h
    have hl : s.facs.length = 1 := h2.2.1.resolve_left ht
    have q1 := fit_words ha (j := 0) (by omega); have q2 := fit_words hb (j := 0) (by omega)
    obtain ⟨h5, h6⟩ := sep_f q1.1 q1.2 q2.2 hx hy h
    exact ⟨fun j hj => by rw [show j = 0 by omega]; exact h5, h6⟩
theorem node_congr {s : Sh} {a b : El} (ha : fitsS s a = true) (hb : fitsS s b = true) (h : eqE a b) : nodeF s a = nodeF s b := by
  have h2 := sh_spec (fits_spec ha).1
  rw [nodeF, nodeF, if_pos ha, if_pos hb, h 0 (by omega)]
  have : constsTo s a s.facs.length = constsTo s b s.facs.length := List.map_congr_left fun i hi => by
    have := mem_upto.1 hi
    rw [h i.toNat (by omega)]
  rw [this]
end Go.Proofs.YtieckcbckgalhaaGreatDoor.E
