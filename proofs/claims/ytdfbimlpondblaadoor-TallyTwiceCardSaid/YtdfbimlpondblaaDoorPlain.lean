/-
  Plain facts on sets of numbers as words, and on chains: no program in sight.
-/
namespace Go.Proofs.YtdfbimlpondblaaDoor.M
set_option linter.unusedVariables false
def chainB (n : Int) : Bool := decide (1 ≤ n ∧ n ≤ 64)
def below (n : Int) : BitVec 64 := if n ≤ 0 then 0#64 else if 64 ≤ n then ~~~0#64 else (1#64 <<< (BitVec.ofInt 64 n).toNat) - 1#64
theorem below_nonpos {n : Int} (h : n ≤ 0) : below n = 0#64 := by simp [below, h]
theorem below_all {n : Int} (h : 64 ≤ n) : below n = ~~~0#64 := by rw [below, if_neg (by omega), if_pos h]
theorem below_mid {n : Int} (h : ¬ n ≤ 0) (h' : ¬ 64 ≤ n) : below n = (1#64 <<< (BitVec.ofInt 64 n).toNat) - 1#64 := by rw [below, if_neg h, if_neg h']
def wordv (n k : Int) : BitVec 64 × Bool := if 1 ≤ n ∧ n ≤ 64 ∧ 0 ≤ k ∧ k < n then (below k, true) else (0#64, false)
def level (n : Int) (s : BitVec 64) : Int × Bool :=
  if 1 ≤ n ∧ n ≤ 64 then
    match (List.range n.toNat).find? (fun k : Nat => s == below (k : Int)) with
    | some k => ((k : Int), true)
    | none => (0, false)
  else (0, false)
/-! ### Bits -/
theorem ofInt_toNat {n : Int} (h : 0 ≤ n ∧ n < 18446744073709551616) : (BitVec.ofInt 64 n).toNat = n.toNat := by
  rw [BitVec.toNat_ofInt]; omega
theorem getLsbD_below (n : Int) (i : Nat) : (below n).getLsbD i = decide (i < 64 ∧ (i : Int) < n) := by
  unfold below
  by_cases h : n ≤ 0
  · rw [if_pos h]; simp; omega
  · rw [if_neg h]
    by_cases h' : 64 ≤ n
    · rw [if_pos h', BitVec.getLsbD_not, BitVec.getLsbD_zero, Bool.not_false, Bool.and_true, decide_eq_decide]; omega
    · rw [if_neg h', ofInt_toNat (by omega)]
      have e : (1#64 <<< n.toNat) - 1#64 = BitVec.ofNat 64 (2 ^ n.toNat - 1) := by
        apply BitVec.eq_of_toNat_eq
        have h1 : 2 ^ n.toNat < 2 ^ 64 := Nat.pow_lt_pow_right (by omega) (by omega)
        have h2 : 0 < 2 ^ n.toNat := Nat.two_pow_pos _
        have h3 : (1#64 <<< n.toNat).toNat = 2 ^ n.toNat := by
          simp [BitVec.toNat_shiftLeft, Nat.shiftLeft_eq]; exact h1
        rw [BitVec.toNat_sub, h3, BitVec.toNat_ofNat, BitVec.toNat_ofNat]
        generalize 2 ^ n.toNat = X at h1 h2
        omega
      rw [e, BitVec.getLsbD_ofNat, Nat.testBit_two_pow_sub_one]
      by_cases a : i < 64 <;> by_cases b : i < n.toNat <;> simp [a, b] <;> omega
def bitsTo (p : Nat → Bool) : Nat → BitVec 64
  | 0 => 0#64
  | i + 1 => if p i then bitsTo p i ||| (1#64 <<< i) else bitsTo p i
theorem getLsbD_one_shl (i k : Nat) : (1#64 <<< i).getLsbD k = (decide (k < 64) && decide (k = i)) := by
  rw [BitVec.getLsbD_shiftLeft]
  simp
  by_cases h1 : k < 64 <;> by_cases h2 : k = i <;> simp [h1, h2] <;> omega
theorem getLsbD_bitsTo (p : Nat → Bool) (j i : Nat) : (bitsTo p j).getLsbD i = (decide (i < j) && decide (i < 64) && p i) := by
  induction j with
  | zero => simp [bitsTo]
  | succ j ih =>
    unfold bitsTo
    by_cases hp : p j = true
    · rw [if_pos hp, BitVec.getLsbD_or, ih, getLsbD_one_shl]
      by_cases h2 : i = j
      · subst h2; by_cases h1 : i < 64 <;> simp [h1, hp]
      · by_cases h1 : i < 64 <;> by_cases h3 : i < j <;> simp [h1, h2, h3] <;> omega
    · rw [if_neg hp, ih]
      by_cases h2 : i = j
      · subst h2; simp [hp]
      · by_cases h1 : i < 64 <;> by_cases h3 : i < j <;> simp [h1, h3] <;> omega
def ofl (l : List Int) : BitVec 64 := bitsTo (fun i => l.contains (i : Int)) 64
theorem getLsbD_ofl (l : List Int) (i : Nat) : (ofl l).getLsbD i = (decide (i < 64) && l.contains (i : Int)) := by
  rw [ofl, getLsbD_bitsTo]; by_cases h : i < 64 <;> simp [h]
def inB (i : Int) : Bool := decide (0 ≤ i ∧ i < 64)
def hasB (s : BitVec 64) (i : Int) : Bool := inB i && s.getLsbD i.toNat
def withB (s : BitVec 64) (i : Int) : BitVec 64 := if inB i then s ||| (1#64 <<< (BitVec.ofInt 64 i).toNat) else s
def lessB (s : BitVec 64) (i : Int) : BitVec 64 := if inB i then s &&& ~~~(1#64 <<< (BitVec.ofInt 64 i).toNat) else s
def lstTo (s : BitVec 64) (j : Nat) : List Int := ((List.range j).filter (s.getLsbD ·)).map fun (i : Nat) => (i : Int)
def lst (s : BitVec 64) : List Int := lstTo s 64
def subB (a b : BitVec 64) : Bool := decide (a &&& ~~~b = 0#64)
theorem getLsbD_withB (s : BitVec 64) (i : Int) (k : Nat) : (withB s i).getLsbD k = (s.getLsbD k || (decide (k < 64) && decide ((k : Int) = i))) := by
  unfold withB inB
  by_cases h : 0 ≤ i ∧ i < 64
  · rw [if_pos (by simpa using h), BitVec.getLsbD_or, getLsbD_one_shl, ofInt_toNat (by omega)]
    by_cases h1 : k < 64 <;> by_cases h2 : (k : Int) = i
    · have h3 : k = i.toNat := by omega
      rw [decide_eq_true h3, decide_eq_true h2]
    · have h3 : ¬ k = i.toNat := by omega
      rw [decide_eq_false h3, decide_eq_false h2]
    · omega
    · rw [decide_eq_false h1]; rfl
  · rw [if_neg (by simpa using h)]
    by_cases h1 : k < 64 <;> by_cases h2 : (k : Int) = i <;> simp [h1, h2] <;> omega
theorem eq_of_bits {a b : BitVec 64} (h : ∀ i, i < 64 → a.getLsbD i = b.getLsbD i) : a = b := BitVec.eq_of_getLsbD_eq (fun i hi => h i hi)
theorem withB_ofl (l : List Int) (i : Int) : withB (ofl l) i = ofl (l ++ [i]) := eq_of_bits fun k hk => by
  rw [getLsbD_withB, getLsbD_ofl, getLsbD_ofl]
  simp [hk, List.contains_eq_mem]
theorem ofl_nil : ofl [] = 0#64 := eq_of_bits fun k hk => by rw [getLsbD_ofl]; simp
theorem mem_lstTo (s : BitVec 64) (j : Nat) (i : Int) : i ∈ lstTo s j ↔ 0 ≤ i ∧ i < j ∧ s.getLsbD i.toNat = true := by
  simp only [lstTo, List.mem_map, List.mem_filter, List.mem_range]
  constructor
  · rintro ⟨a, ⟨h1, h2⟩, rfl⟩; exact ⟨by omega, by omega, by simpa using h2⟩
  · rintro ⟨h1, h2, h3⟩; exact ⟨i.toNat, ⟨by omega, h3⟩, by omega⟩
theorem mem_lst (s : BitVec 64) (i : Int) : i ∈ lst s ↔ hasB s i = true := by
  rw [lst, mem_lstTo, hasB, inB, Bool.and_eq_true, decide_eq_true_eq]
  exact ⟨fun ⟨a, b, c⟩ => ⟨⟨a, by omega⟩, c⟩, fun ⟨⟨a, b⟩, c⟩ => ⟨a, by omega, c⟩⟩
theorem ofl_lst (s : BitVec 64) : ofl (lst s) = s := eq_of_bits fun k hk => by
  rw [getLsbD_ofl]
  have := mem_lst s (k : Int)
  have hc : (lst s).contains (k : Int) = hasB s k := by
    rw [Bool.eq_iff_iff, ← this]; simp
  rw [hc, hasB, inB]; simp [hk]; omega
theorem lstTo_len (s : BitVec 64) (j : Nat) : (lstTo s j).length ≤ j := by
  have := List.length_filter_le (s.getLsbD ·) (List.range j)
  simpa [lstTo] using this
theorem lst_len (s : BitVec 64) : (lst s).length ≤ 64 := lstTo_len s 64
def oflTo (l : List Int) (j : Nat) : BitVec 64 := bitsTo (fun i => l.contains (i : Int)) j
theorem take_next {l : List Int} {k : Int} (h0 : 0 ≤ k) (h : k < l.length) : l.take (k + 1).toNat = l.take k.toNat ++ [l.getD k.toNat 0] := by
  rw [show (k + 1).toNat = k.toNat + 1 by omega, List.take_succ_eq_append_getElem (by omega), List.getD_eq_getElem?_getD, List.getElem?_eq_getElem (by omega)]; rfl
theorem take_all {l : List Int} {k : Int} (h : ¬ k < l.length) : l.take k.toNat = l := List.take_of_length_le (by omega)
def upto (j : Int) : List Int := (List.range j.toNat).map fun (i : Nat) => (i : Int)
theorem mem_upto {j i : Int} : i ∈ upto j ↔ 0 ≤ i ∧ i < j := by
  simp only [upto, List.mem_map, List.mem_range]
  constructor
  · rintro ⟨a, h1, rfl⟩; omega
  · rintro ⟨h1, h2⟩; exact ⟨i.toNat, by omega, by omega⟩
/-! ### Chains -/
def topv (n : Int) : BitVec 64 := if 1 ≤ n ∧ n ≤ 64 then below (n - 1) else 0#64
def pop (s : BitVec 64) : Int :=
  let x := (s >>> 1 &&& 6148914691236517205#64) + (s &&& 6148914691236517205#64)
  let x := (x >>> 2 &&& 3689348814741910323#64) + (x &&& 3689348814741910323#64)
  let x := (x >>> 4 + x) &&& 1085102592571150095#64
  let x := x + x >>> 8
  let x := x + x >>> 16
  let x := x + x >>> 32
  (x &&& 127#64).toInt
/-! ### The least number of a set -/
theorem sorted_ext : ∀ {l m : List Int}, l.Pairwise (· < ·) → m.Pairwise (· < ·) → (∀ x, x ∈ l ↔ x ∈ m) → l = m
  | [], [], _, _, _ => rfl
  | [], b :: m, _, _, h => by have := (h b).2 (by simp); simp at this
  | a :: l, [], _, _, h => by have := (h a).1 (by simp); simp at this
  | a :: l, b :: m, hl, hm, h => by
    have hl' := List.pairwise_cons.1 hl
    have hm' := List.pairwise_cons.1 hm
    have hab : a = b := by
      rcases List.mem_cons.1 ((h a).1 (by simp)) with h1 | h1
      · exact h1
      · rcases List.mem_cons.1 ((h b).2 (by simp)) with h2 | h2
        · exact h2.symm
        · have := hm'.1 a h1; have := hl'.1 b h2; omega
    subst hab
    congr 1
    refine sorted_ext hl'.2 hm'.2 fun x => ?_
    constructor
    · intro hx
      rcases List.mem_cons.1 ((h x).1 (List.mem_cons_of_mem _ hx)) with h1 | h1
      · have := hl'.1 x hx; omega
      · exact h1
    · intro hx
      rcases List.mem_cons.1 ((h x).2 (List.mem_cons_of_mem _ hx)) with h1 | h1
      · have := hm'.1 x hx; omega
      · exact h1
theorem lst_sorted (s : BitVec 64) : (lst s).Pairwise (· < ·) := by
  unfold lst lstTo
  refine List.pairwise_map.2 ((List.Pairwise.filter _ List.pairwise_lt_range).imp ?_)
  intro a b h; omega
theorem lst_eq_nil {s : BitVec 64} : lst s = [] ↔ s = 0#64 := by
  constructor
  · intro h; rw [← ofl_lst s, h, ofl_nil]
  · rintro rfl; simp [lst, lstTo]
def Low (s : BitVec 64) (j : Nat) : Prop := j < 64 ∧ s.getLsbD j = true ∧ ∀ i, i < j → s.getLsbD i = false
theorem low_exists {s : BitVec 64} (h : s ≠ 0#64) : ∃ j, Low s j := by
  have hne : lst s ≠ [] := fun e => h (lst_eq_nil.1 e)
  obtain ⟨a, l, e⟩ := List.exists_cons_of_ne_nil hne
  have ha := (mem_lst s a).1 (by rw [e]; simp)
  simp only [hasB, inB, Bool.and_eq_true, decide_eq_true_eq] at ha
  refine ⟨a.toNat, by omega, ha.2, fun i hi => ?_⟩
  cases hb : s.getLsbD i with
  | false => rfl
  | true =>
    have hm := (mem_lst s (i : Int)).2 (by simp [hasB, inB, hb]; omega)
    rw [e] at hm
    have hs := lst_sorted s
    rw [e] at hs
    rcases List.mem_cons.1 hm with h1 | h1
    · omega
    · have := (List.pairwise_cons.1 hs).1 _ h1; omega
theorem low_form {s : BitVec 64} {j : Nat} (h : Low s j) : ∃ m, s.toNat = 2 ^ j * (2 * m + 1) := by
  obtain ⟨hj, hb, hz⟩ := h
  have h1 : s.toNat % 2 ^ j = 0 := by
    apply Nat.eq_of_testBit_eq
    intro i
    rw [Nat.testBit_mod_two_pow, Nat.zero_testBit]
    by_cases hi : i < j
    · have := hz i hi; rw [BitVec.getLsbD] at this; simp [this]
    · simp [hi]
  have h2 : s.toNat / 2 ^ j % 2 = 1 := by
    rw [BitVec.getLsbD, Nat.testBit_eq_decide_div_mod_eq] at hb
    simpa using hb
  refine ⟨s.toNat / 2 ^ j / 2, ?_⟩
  have h3 := Nat.div_add_mod s.toNat (2 ^ j)
  have h4 := Nat.div_add_mod (s.toNat / 2 ^ j) 2
  rw [h2] at h4
  rw [h4]; omega
theorem sub_one_bit {s : BitVec 64} {j : Nat} (h : Low s j) {i : Nat} (hi : i < 64) : (s - 1#64).getLsbD i = if i < j then true else if i = j then false else s.getLsbD i := by
  obtain ⟨m, hm⟩ := low_form h
  have hp : 0 < 2 ^ j := Nat.two_pow_pos j
  have hlt := s.isLt
  have h1 : (s - 1#64).toNat = 2 ^ j * (2 * m) + (2 ^ j - 1) := by
    rw [BitVec.toNat_sub]
    have e : (1#64).toNat = 1 := rfl
    have e2 : 2 ^ j * (2 * m + 1) = 2 ^ j * (2 * m) + 2 ^ j := by rw [Nat.mul_add, Nat.mul_one]
    rw [e]; omega
  rw [BitVec.getLsbD, h1, Nat.testBit_two_pow_mul_add _ (by omega)]
  by_cases h2 : i < j
  · rw [if_pos h2, if_pos h2, Nat.testBit_two_pow_sub_one]; simp [h2]
  · rw [if_neg h2, if_neg h2]
    by_cases h3 : i = j
    · subst h3; rw [if_pos rfl, Nat.sub_self]; simp
    · rw [if_neg h3, BitVec.getLsbD, hm]
      have e2 : 2 ^ j * (2 * m + 1) = 2 ^ j * (2 * m + 1) + 0 := by omega
      rw [e2, Nat.testBit_two_pow_mul_add _ hp, if_neg h2]
      obtain ⟨k, hk⟩ : ∃ k, i - j = k + 1 := ⟨i - j - 1, by omega⟩
      rw [hk, Nat.testBit_succ, Nat.testBit_succ]
      congr 1; omega
theorem clear_low {s : BitVec 64} {j : Nat} (h : Low s j) {i : Nat} (hi : i < 64) : (s &&& (s - 1#64)).getLsbD i = (s.getLsbD i && !decide (i = j)) := by
  rw [BitVec.getLsbD_and, sub_one_bit h hi]
  by_cases h1 : i < j
  · rw [if_pos h1, h.2.2 i h1]; rfl
  · rw [if_neg h1]
    by_cases h2 : i = j
    · rw [if_pos h2]; simp [h2]
    · rw [if_neg h2]; simp [h2]
theorem lst_low {s : BitVec 64} {j : Nat} (h : Low s j) : lst s = (j : Int) :: lst (s &&& (s - 1#64)) := by
  refine sorted_ext (lst_sorted s) (List.pairwise_cons.2 ⟨fun x hx => ?_, lst_sorted _⟩) fun x => ?_
  · have := (mem_lst _ x).1 hx
    simp only [hasB, inB, Bool.and_eq_true, decide_eq_true_eq] at this
    obtain ⟨⟨h0, h1⟩, h2⟩ := this
    rw [clear_low h (by omega)] at h2
    simp only [Bool.and_eq_true, Bool.not_eq_true', decide_eq_false_iff_not] at h2
    rcases Nat.lt_or_ge x.toNat j with hlt | hge
    · rw [h.2.2 _ hlt] at h2; cases h2.1
    · omega
  · rw [mem_lst, List.mem_cons, mem_lst]
    simp only [hasB, inB, Bool.and_eq_true, decide_eq_true_eq]
    constructor
    · rintro ⟨h1, h2⟩
      by_cases hx : x = j
      · exact .inl hx
      · refine .inr ⟨h1, ?_⟩
        rw [clear_low h (by omega), h2]; simp; omega
    · rintro (rfl | ⟨h1, h2⟩)
      · have := h.1; exact ⟨by omega, by simpa using h.2.1⟩
      · rw [clear_low h (by omega)] at h2
        simp only [Bool.and_eq_true] at h2
        exact ⟨h1, h2.1⟩
theorem neg_low {s : BitVec 64} {j : Nat} (h : Low s j) : s &&& -s = 1#64 <<< j := by
  have hn : -s = ~~~(s - 1#64) := by
    apply BitVec.eq_of_toNat_eq
    rw [BitVec.toNat_neg, BitVec.toNat_not, BitVec.toNat_sub]
    have e : (1#64).toNat = 1 := rfl
    have := s.isLt
    rw [e]; omega
  refine eq_of_bits fun i hi => ?_
  rw [hn, BitVec.getLsbD_and, BitVec.getLsbD_not, sub_one_bit h hi, getLsbD_one_shl]
  by_cases h1 : i < j
  · rw [if_pos h1, h.2.2 i h1]; simp; omega
  · rw [if_neg h1]
    by_cases h2 : i = j
    · rw [if_pos h2, h2, h.2.1]; simp
    · rw [if_neg h2]; cases s.getLsbD i <;> simp [h2]
def tztab : List Int := [0, 1, 56, 2, 57, 49, 28, 3, 61, 58, 42, 50, 38, 29, 17, 4, 62, 47, 59, 36, 45, 43, 51, 22, 53, 39, 33, 30, 24, 18, 12, 5, 63, 55, 48, 27, 60, 41, 37, 16, 46, 35, 44, 21, 52, 32, 23, 11, 54, 26, 40, 15, 34, 20, 31, 10, 25, 14, 19, 9, 13, 8, 7, 6]
def tz (s : BitVec 64) : Int := if s = 0#64 then 64 else tztab.getD (((s &&& -s) * 285870213051353865#64) >>> 58).toNat 0
theorem tz_idx (x : BitVec 64) : 0 ≤ ((x >>> 58).toNat : Int) ∧ ((x >>> 58).toNat : Int) < (64 : Nat) := by
  have : (x >>> 58).toNat < 64 := by
    rw [BitVec.toNat_ushiftRight, Nat.shiftRight_eq_div_pow]
    have := x.isLt
    omega
  omega
theorem tz_low {s : BitVec 64} {j : Nat} (h : Low s j) : tz s = j := by
  have hne : s ≠ 0#64 := fun e => by have := h.2.1; rw [e] at this; simp at this
  rw [tz, if_neg hne, neg_low h]
  have key : ∀ k : Fin 64, tztab.getD (((1#64 <<< k.val) * 285870213051353865#64) >>> 58).toNat 0 = (k.val : Int) := by decide +kernel
  exact key ⟨j, h.1⟩
theorem lst_tz {s : BitVec 64} (h : s ≠ 0#64) : lst s = tz s :: lst (s &&& (s - 1#64)) := by
  obtain ⟨j, hj⟩ := low_exists h
  rw [tz_low hj]; exact lst_low hj
theorem lst_clear_lt {s : BitVec 64} (h : s ≠ 0#64) : (lst (s &&& (s - 1#64))).length < (lst s).length := by
  rw [lst_tz h]; simp
/-! ### How many numbers a set has -/
def lanes : List Nat → Nat
  | [] => 0
  | d :: r => 2 ^ 8 * lanes r + d
def digs (x : Nat) : List Nat := [x % 256, x / 256 % 256, x / 65536 % 256, x / 16777216 % 256, x / 4294967296 % 256, x / 1099511627776 % 256, x / 281474976710656 % 256, x / 72057594037927936 % 256]
def g1 (d : Nat) : Nat := ((d >>> 1) &&& 85) + (d &&& 85)
def g2 (d : Nat) : Nat := ((d >>> 2) &&& 51) + (d &&& 51)
def pc8 (d : Nat) : Nat := (List.range 8).countP d.testBit
/-! ### The number that k others are less than -/
def nthv (s : BitVec 64) (k : Int) : Int × Bool := if 0 ≤ k ∧ k < (lst s).length then ((lst s).getD k.toNat 0, true) else (0, false)
def kAt (k : Int) (n : Nat) : Int := if k - n < -9223372036854775808 then k - n + 18446744073709551616 else k - n
theorem tz_ne {s : BitVec 64} (h : s ≠ 0#64) : tztab.getD (((s &&& -s) * 285870213051353865#64) >>> 58).toNat 0 = tz s := by rw [tz, if_neg h]
def leastv (s : BitVec 64) : Int × Bool := if s = 0#64 then (0, false) else (tz s, true)
/-! ### What a set gains and loses, and what it counts -/
end Go.Proofs.YtdfbimlpondblaaDoor.M
