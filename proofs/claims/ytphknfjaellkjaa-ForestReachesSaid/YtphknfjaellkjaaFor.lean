/-
  Forests: what Union joins, what Undo leaves; the state of a forest in memory.
-/
import Derived.Test.YtphknfjaellkjaaCel
namespace Go.Proofs.Ytphknfjaellkjaa.M
open Go
set_option linter.unusedVariables false
set_option linter.unusedSimpArgs false
def unOk (n : Nat) (cl : List Nat) (i j : Int) : Prop := (0 ≤ i ∧ i < n) ∧ (0 ≤ j ∧ j < n) ∧ clF cl i.toNat ≠ clF cl j.toNat
structure UnP (nd : List Fnd) (cl : List Nat) (i j : Int) (a b : Nat) : Prop where
  ok : unOk nd.length cl i j
  ha : a < nd.length
  hb : b < nd.length
  ab : a ≠ b
  ua : upF nd a = a
  ub : upF nd b = b
  c : clF cl a = clF cl i.toNat ∧ clF cl b = clF cl j.toNat ∨ clF cl a = clF cl j.toNat ∧ clF cl b = clF cl i.toNat
section
variable {nd : List Fnd} {cl : List Nat} {i j : Int} {a b : Nat}
theorem un_start (h : Fo nd cl) (hi : 0 ≤ i ∧ i < nd.length) (hj : 0 ≤ j ∧ j < nd.length) (hne : ((rootC nd cl i.toNat : Nat) : Int) ≠ (rootC nd cl j.toNat : Nat)) : UnP nd cl i j (rootC nd cl i.toNat) (rootC nd cl j.toNat) := by
  obtain ⟨a1, a2, a3⟩ := rootC_is h (i := i.toNat) (by omega)
  obtain ⟨b1, b2, b3⟩ := rootC_is h (i := j.toNat) (by omega)
  have hab : rootC nd cl i.toNat ≠ rootC nd cl j.toNat := fun e => hne (congrArg _ e)
  exact ⟨⟨hi, hj, fun e => hab ((root_same h a1 b1 a2 b2 a3 b3).2 e)⟩, a1, b1, hab, a2, b2, .inl ⟨a3, b3⟩⟩
theorem UnP.swap (h : UnP nd cl i j a b) : UnP nd cl i j b a := ⟨h.ok, h.hb, h.ha, h.ab.symm, h.ub, h.ua, h.c.elim (fun q => .inr ⟨q.2, q.1⟩) fun q => .inl ⟨q.2, q.1⟩⟩
theorem un_no1 (h : ¬ (0 ≤ i ∧ i < nd.length)) : ¬ unOk nd.length cl i j := fun q => h q.1
theorem un_no2 (h : ¬ (0 ≤ j ∧ j < nd.length)) : ¬ unOk nd.length cl i j := fun q => h q.2.1
theorem un_no3 (h : Fo nd cl) (hi : 0 ≤ i ∧ i < nd.length) (hj : 0 ≤ j ∧ j < nd.length) (e : ((rootC nd cl i.toNat : Nat) : Int) = (rootC nd cl j.toNat : Nat)) : ¬ unOk nd.length cl i j := fun q => q.2.2 (by
  obtain ⟨a1, a2, a3⟩ := rootC_is h (i := i.toNat) (by omega)
  obtain ⟨b1, b2, b3⟩ := rootC_is h (i := j.toNat) (by omega)
  exact (root_same h a1 b1 a2 b2 a3 b3).1 (by omega))
theorem rd_sz {v : Nat} (h : a < nd.length) (e : szF nd a = v) (hv : v ≤ 1000000) : ((wordsN nd).getD (4 * (a : Int) + 1).toNat 0).toInt = (v : Int) := word_is ⟨by omega, by omega⟩ ((fr_sz h).trans (by rw [e])) hv
theorem rd_nx {v : Nat} (h : a < nd.length) (e : nxF nd a = v) (hv : v ≤ 1000000) : ((wordsN nd).getD (4 * (a : Int) + 2).toNat 0).toInt = (v : Int) := word_is ⟨by omega, by omega⟩ ((fr_nx h).trans (by rw [e])) hv
theorem rd_le {v : Nat} (h : a < nd.length) (e : leF nd a = v) (hv : v ≤ 1000000) : ((wordsN nd).getD (4 * (a : Int) + 3).toNat 0).toInt = (v : Int) := word_is ⟨by omega, by omega⟩ ((fr_le h).trans (by rw [e])) hv
theorem Fo.small (h : Fo nd cl) (ha : a < nd.length) : szF nd a ≤ nd.length ∧ nxF nd a ≤ nd.length := ⟨h.sn a ha, by obtain ⟨_, _, t, _, q⟩ := h.szb ha; omega⟩
theorem Fo.smallL (h : Fo nd cl) (ha : a < nd.length) (hu : upF nd a = a) : leF nd a ≤ nd.length := by rw [h.le a ha hu]; have := (h.lc a ha).1; omega
theorem un_fo (h : Fo nd cl) (p : UnP nd cl i j a b) : Fo (joinN nd a b) (joinC cl (clF cl i.toNat) (clF cl j.toNat)) ∧ leads (joinC cl (clF cl i.toNat) (clF cl j.toNat)) + 1 = leads cl := by
  have h1 := h.join p.ha p.hb p.ab p.ua p.ub
  have h2 := leads_join h p.ha p.hb p.ab p.ua p.ub
  rcases p.c with ⟨e1, e2⟩ | ⟨e1, e2⟩
  · rw [e1, e2] at h1 h2; exact ⟨h1, h2⟩
  · rw [e1, e2, joinC_comm] at h1 h2; exact ⟨h1, h2⟩
theorem joinC_len {x y : Nat} : (joinC cl x y).length = cl.length := by simp [joinC]
end
/-! ### Undo -/
def tmI (tn : List Nat) : List Int := tn.reverse.map Int.ofNat
theorem tmI_len (tn : List Nat) : (tmI tn).length = tn.length := by simp [tmI]
theorem tmI_cons (t : Nat) (tn : List Nat) : tmI (t :: tn) = tmI tn ++ [(t : Int)] := by simp [tmI]
theorem leads_le (cl : List Nat) : leads cl ≤ cl.length := by
  unfold leads
  have := List.length_filter_le (fun i => clF cl i == i) (List.range cl.length)
  rwa [List.length_range] at this
theorem Hs.cl_len {W : List (BitVec 64)} {us : List Und} {tn : List Nat} {cs : List (List Nat)} {cl : List Nat} (h : Hs W us tn (cl :: cs)) : cl.length ≤ tn.length := by
  induction tn generalizing W us cl cs with
  | nil =>
    cases cs with
    | nil => obtain ⟨_, rfl, _⟩ := h; simp
    | cons c cs => exact h.elim
  | cons t tn ih =>
    cases cs with
    | nil => exact h.elim
    | cons c2 cs =>
      have h1 := ih h.back
      have h2 := h.cnt
      unfold cntStep at h2
      simp only [List.length_cons]; omega
structure BackP (ul ul1 : List (Value × Und)) (tn tn1 : List Nat) (cs cs1 : List (List Nat)) (W1 : List (BitVec 64)) : Prop where
  hs : Hs W1 (ul1.map Prod.snd) tn1 cs1
  ok : okU W1.length (ul1.map Prod.snd)
  sub : ∀ x ∈ ul1, x ∈ ul
  le : ul1.length ≤ ul.length
  cs : cs1 = cs.drop (tn.length - tn1.length)
  tn : tn1.length ≤ tn.length
section
variable {ul ul1 : List (Value × Und)} {tn tn1 : List Nat} {cs cs1 : List (List Nat)} {W1 : List (BitVec 64)}
theorem BackP.start (h : Hs W1 (ul.map Prod.snd) tn cs) (hok : okU W1.length (ul.map Prod.snd)) : BackP ul ul tn tn cs cs W1 := ⟨h, hok, fun _ h => h, Nat.le_refl _, by simp, Nat.le_refl _⟩
theorem BackP.next {t : Nat} {cl c2 : List Nat} {cs2 : List (List Nat)} {nd2 : List Fnd} (h : BackP ul ul1 tn (t :: tn1) cs (cl :: c2 :: cs2) W1) (e : undTo W1 (ul1.map Prod.snd) t = wordsN nd2) : BackP ul (ul1.take t) tn tn1 cs (c2 :: cs2) (wordsN nd2) := by
  have ht := h.hs.le
  rw [List.length_map] at ht
  have hb := h.hs.back
  rw [e, ← List.map_take] at hb
  have ho := okU_take h.ok (t := t) (by rw [List.length_map]; exact ht)
  rw [e, ← List.map_take] at ho
  have hn := h.tn
  rw [List.length_cons] at hn
  refine ⟨hb, ho, fun x hx => h.sub x (List.mem_of_mem_take hx), by rw [List.length_take]; have := h.le; omega, ?_, by omega⟩
  have hc := h.cs
  rw [List.length_cons] at hc
  rw [show tn.length - tn1.length = tn.length - (tn1.length + 1) + 1 by omega, ← List.drop_drop, ← hc]; rfl
end
end Go.Proofs.Ytphknfjaellkjaa.M
namespace Go.Proofs.Ytphknfjaellkjaa.E
open Go Go.RowKit Go.Proofs.Ytphknfjaellkjaa.M
set_option linter.unusedVariables false
set_option linter.unusedSimpArgs false
end Go.Proofs.Ytphknfjaellkjaa.E
/-! ### The calls, plainly: all times' classes, the newest ahead -/
namespace Go.Proofs.Ytphknfjaellkjaa.M
open Go
set_option linter.unusedVariables false
set_option linter.unusedSimpArgs false
def nowC (cs : List (List Nat)) : List Nat := cs.headD []
def addC (cs : List (List Nat)) : List (List Nat) := (nowC cs ++ [(nowC cs).length]) :: cs
def unionC (cs : List (List Nat)) (i j : Int) : List (List Nat) × Bool :=
  if findR (nowC cs) i < 0 ∨ findR (nowC cs) j < 0 ∨ findR (nowC cs) i = findR (nowC cs) j then (cs, false)
  else (joinC (nowC cs) (findR (nowC cs) i).toNat (findR (nowC cs) j).toNat :: cs, true)
def undoC (cs : List (List Nat)) (m : Int) : List (List Nat) × Bool :=
  if (cs.length : Int) - 1 < m then (cs, false) else (cs.drop (cs.length - 1 - (max 0 m).toNat), true)
theorem findR_neg {cl : List Nat} {i : Int} : findR cl i < 0 ↔ ¬ (0 ≤ i ∧ i < cl.length) := by
  unfold findR
  by_cases h : 0 ≤ i ∧ i < cl.length
  · rw [if_pos h]; exact ⟨fun q => by omega, fun q => absurd h q⟩
  · rw [if_neg h]; exact ⟨fun _ => h, fun _ => by omega⟩
theorem union_yes {cs : List (List Nat)} {i j : Int} (h : unOk (nowC cs).length (nowC cs) i j) : unionC cs i j = (joinC (nowC cs) (clF (nowC cs) i.toNat) (clF (nowC cs) j.toNat) :: cs, true) := by
  obtain ⟨h1, h2, h3⟩ := h
  unfold unionC
  rw [findR_in h1, findR_in h2, if_neg (by omega)]; simp
theorem union_no {cs : List (List Nat)} {i j : Int} (h : ¬ unOk (nowC cs).length (nowC cs) i j) : unionC cs i j = (cs, false) := by
  unfold unionC
  rw [if_pos]
  by_cases h1 : 0 ≤ i ∧ i < (nowC cs).length
  · by_cases h2 : 0 ≤ j ∧ j < (nowC cs).length
    · refine .inr (.inr ?_)
      rw [findR_in h1, findR_in h2]
      refine Decidable.byContradiction fun q => h ⟨h1, h2, fun e => q (by rw [e])⟩
    · exact .inr (.inl (findR_neg.2 h2))
  · exact .inl (findR_neg.2 h1)
end Go.Proofs.Ytphknfjaellkjaa.M
namespace Go.Proofs.Ytphknfjaellkjaa.E
open Go Go.RowKit Go.Proofs.Ytphknfjaellkjaa.M
set_option linter.unusedVariables false
set_option linter.unusedSimpArgs false
structure FTy where
  ut : UT
  tf : TypeId
  tu : TypeId
  tfn : TypeId
  ti : TypeId
structure FoI (T : FTy) (F m : Nat) (cs : List (List Nat)) (vW vU vT : Value) (cW cU : Option (Nat × Array Value)) (W : List (BitVec 64)) (ul : List (Value × Und)) (tn : List Nat) (Lb : List Ent) : Prop where
  hW : cO cW vW (W.map U)
  hU : cO cU vU (ul.map Prod.fst)
  hs : Hs W (ul.map Prod.snd) tn cs
  ok : okU W.length (ul.map Prod.snd)
  un : ∀ x ∈ ul, UndIn T.ut F Lb x
  lu : ul.length ≤ 5 * m
  lt : tn.length ≤ m
def foL (T : FTy) (F : Nat) (cs : List (List Nat)) (vW vU vT : Value) (cW cU : Option (Nat × Array Value)) (W : List (BitVec 64)) (ul : List (Value × Und)) (tn : List Nat) (Lb : List Ent) : List Ent :=
  .blk F (.cells #[vW, vU, vT, I ((leads (nowC cs) : Nat) : Int)] T.tf (0, 0)) :: cE cW vW T.tu (W.map U) :: cE cU vU T.tfn (ul.map Prod.fst) :: .row vT T.ti 1 tn.length ((tmI tn).map I) :: Lb
def FoZ (T : FTy) (F m : Nat) (cs : List (List Nat)) (Z : List Ent) : Prop :=
  ∃ (vW vU vT : Value) (cW cU : Option (Nat × Array Value)) (W : List (BitVec 64)) (ul : List (Value × Und)) (tn : List Nat) (Lb : List Ent), Z = foL T F cs vW vU vT cW cU W ul tn Lb ∧ FoI T F m cs vW vU vT cW cU W ul tn Lb
theorem FoZ.more {T : FTy} {F m m' : Nat} {cs : List (List Nat)} {Z : List Ent} (h : FoZ T F m cs Z) (hm : m ≤ m') : FoZ T F m' cs Z := by
  obtain ⟨vW, vU, vT, cW, cU, W, ul, tn, Lb, e, i⟩ := h
  exact ⟨vW, vU, vT, cW, cU, W, ul, tn, Lb, e, i.hW, i.hU, i.hs, i.ok, i.un, by have := i.lu; omega, by have := i.lt; omega⟩
theorem FoI.now {T : FTy} {F m : Nat} {cs : List (List Nat)} {vW vU vT : Value} {cW cU : Option (Nat × Array Value)} {W : List (BitVec 64)} {ul : List (Value × Und)} {tn : List Nat} {Lb : List Ent} (h : FoI T F m cs vW vU vT cW cU W ul tn Lb) :
    ∃ nd cl cs0, cs = cl :: cs0 ∧ W = wordsN nd ∧ Fo nd cl ∧ nd.length = cl.length ∧ cl.length ≤ m ∧ tn.length + 1 = cs.length ∧ leads cl ≤ m := by
  cases cs with
  | nil => exact h.hs.ne.elim
  | cons cl cs0 =>
    obtain ⟨nd, h1, h2⟩ := h.hs.now
    have h3 := h.hs.cl_len; have h4 := h.lt; have h5 := leads_le cl; have h6 := h.hs.len
    exact ⟨nd, cl, cs0, rfl, h1, h2, h2.len.symm, by omega, by omega, by omega⟩
theorem FoZ.rd {T : FTy} {F m : Nat} {cs : List (List Nat)} {Z L : List Ent} {w0 w : World} (h : FoZ T F m cs Z) (hH : Hp w0 w L) (hm : ∀ x ∈ Z, x ∈ L) :
    ∃ (vW vU vT : Value) (nd : List Fnd) (cl : List Nat) (cs0 : List (List Nat)) (ts : List Int), cs = cl :: cs0 ∧ w.heap[F]? = some (.cells #[vW, vU, vT, I ((leads cl : Nat) : Int)] T.tf (0, 0)) ∧ Sl w vW 1 (wordsN nd).length ((wordsN nd).map U) ∧ Fo nd cl ∧ nd.length ≤ m ∧ nd.length = cl.length ∧ Sl w vT 1 ts.length (ts.map I) ∧ ts.length + 1 = cs.length := by
  obtain ⟨vW, vU, vT, cW, cU, W, ul, tn, Lb, rfl, i⟩ := h
  obtain ⟨nd, cl, cs0, rfl, rfl, h2, h3, h4, h5, h6⟩ := i.now
  have m1 := hm (.blk F (.cells #[vW, vU, vT, I ((leads cl : Nat) : Int)] T.tf (0, 0))) (by simp [foL, nowC])
  have m2 := hm (cE cW vW T.tu ((wordsN nd).map U)) (by simp [foL])
  have m3 := hm (.row vT T.ti 1 tn.length ((tmI tn).map I)) (by simp [foL])
  obtain ⟨i2, q2⟩ := List.getElem?_of_mem m2
  obtain ⟨i3, q3⟩ := List.getElem?_of_mem m3
  refine ⟨vW, vU, vT, nd, cl, cs0, tmI tn, rfl, hH.memB m1, hH.slU q2 i.hW, h2, by omega, h3, ?_, by rw [tmI_len]; omega⟩
  have := hH.sl q3
  rwa [tmI_len]
theorem FoZ.new {T : FTy} {F : Nat} : FoZ T F 0 [[]] [.blk F (.cells #[.slice none 0 0, .slice none 0 0, .slice none 0 0, I 0] T.tf (0, 0)), .row (.slice none 0 0) T.tu 1 0 [], .row (.slice none 0 0) T.tfn 1 0 [], .row (.slice none 0 0) T.ti 1 0 []] := by
  refine ⟨.slice none 0 0, .slice none 0 0, .slice none 0 0, none, none, [], [], [], [], rfl, trivial, trivial, Hs.start, trivial, fun x hx => (by cases hx), by simp, by simp⟩
end Go.Proofs.Ytphknfjaellkjaa.E
