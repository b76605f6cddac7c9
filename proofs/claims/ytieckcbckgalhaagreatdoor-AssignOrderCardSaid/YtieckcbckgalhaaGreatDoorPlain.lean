/-
  Plain facts on sets of numbers as words, and on chains: no program in sight.
-/
namespace Go.Proofs.YtieckcbckgalhaaGreatDoor.M
set_option linter.unusedVariables false

def chainB (n : Int) : Bool := decide (1 ≤ n ∧ n ≤ 64)
/-- The set of all numbers below one. -/
def below (n : Int) : BitVec 64 := if n ≤ 0 then 0#64 else if 64 ≤ n then ~~~0#64 else (1#64 <<< (BitVec.ofInt 64 n).toNat) - 1#64
theorem below_nonpos {n : Int} (h : n ≤ 0) : below n = 0#64 := by simp [below, h]
theorem below_all {n : Int} (h : 64 ≤ n) : below n = ~~~0#64 := by rw [below, if_neg (by omega), if_pos h]
theorem below_mid {n : Int} (h : ¬ n ≤ 0) (h' : ¬ 64 ≤ n) : below n = (1#64 <<< (BitVec.ofInt 64 n).toNat) - 1#64 := by rw [below, if_neg h, if_neg h']

/-- The word of a level. -/
def wordv (n k : Int) : BitVec 64 × Bool := if 1 ≤ n ∧ n ≤ 64 ∧ 0 ≤ k ∧ k < n then (below k, true) else (0#64, false)
theorem chain_t {n : Int} (h : (!chainB n) = false) : 1 ≤ n ∧ n ≤ 64 := by simpa [chainB] using h
theorem chain_f {n : Int} (h : (!chainB n) = true) : ¬ (1 ≤ n ∧ n ≤ 64) := by simp [chainB] at h; omega
theorem wordv_no {n k : Int} (h : ¬ (1 ≤ n ∧ n ≤ 64 ∧ 0 ≤ k ∧ k < n)) : wordv n k = (0#64, false) := by rw [wordv, if_neg h]
theorem wordv_yes {n k : Int} (h : 1 ≤ n ∧ n ≤ 64 ∧ 0 ≤ k ∧ k < n) : wordv n k = (below k, true) := by rw [wordv, if_pos h]
/-- The level of a word. -/
def level (n : Int) (s : BitVec 64) : Int × Bool :=
  if 1 ≤ n ∧ n ≤ 64 then
    match (List.range n.toNat).find? (fun k : Nat => s == below (k : Int)) with
    | some k => ((k : Int), true)
    | none => (0, false)
  else (0, false)
theorem level_no {n : Int} (s : BitVec 64) (h : ¬ (1 ≤ n ∧ n ≤ 64)) : level n s = (0, false) := by simp only [level, if_neg h]
theorem level_at {n k : Int} {s : BitVec 64} (h : 1 ≤ n ∧ n ≤ 64) (h0 : 0 ≤ k) (hk : k < n) (hs : s = below k) (hf : ∀ j : Int, 0 ≤ j → j < k → s ≠ below j) : level n s = (k, true) := by
  have hfind : (List.range n.toNat).find? (fun i : Nat => s == below (i : Int)) = some k.toNat := by
    rw [List.find?_range_eq_some]
    refine ⟨?_, ?_, ?_⟩
    · rw [show ((k.toNat : Int)) = k by omega]; simpa using hs
    · simp; omega
    · intro j hj
      have := hf j (by omega) (by omega)
      simpa using this
  simp only [level, if_pos h, hfind]
  rw [show ((k.toNat : Int)) = k by omega]
theorem level_none {n : Int} {s : BitVec 64} (h : 1 ≤ n ∧ n ≤ 64) (hf : ∀ j : Int, 0 ≤ j → j < n → s ≠ below j) : level n s = (0, false) := by
  have hfind : (List.range n.toNat).find? (fun i : Nat => s == below (i : Int)) = none := by
    rw [List.find?_range_eq_none]
    intro j hj
    have := hf j (by omega) (by omega)
    simpa using this
  simp only [level, if_pos h, hfind]

/-! ### Bits -/
theorem ofInt_toNat {n : Int} (h : 0 ≤ n ∧ n < 18446744073709551616) : (BitVec.ofInt 64 n).toNat = n.toNat := by
  rw [BitVec.toNat_ofInt]; omega
theorem getLsbD_below (n : Int) (i : Nat) : (below n).getLsbD i = decide (i < 64 ∧ (i : Int) < n) := by
  unfold below
  by_cases h : n ≤ 0
  · rw [if_pos h]; simp; omega
  · rw [if_neg h]
    by_cases h' : 64 ≤ n
    · rw [if_pos h', BitVec.getLsbD_not, BitVec.getLsbD_zero, Bool.not_false, Bool.and_true, decide_eq_decide]; omega
    · rw [if_neg h', ofInt_toNat (by omega)]
      have e : (1#64 <<< n.toNat) - 1#64 = BitVec.ofNat 64 (2 ^ n.toNat - 1) := by
        apply BitVec.eq_of_toNat_eq
        have h1 : 2 ^ n.toNat < 2 ^ 64 := Nat.pow_lt_pow_right (by omega) (by omega)
        have h2 : 0 < 2 ^ n.toNat := Nat.two_pow_pos _
        have h3 : (1#64 <<< n.toNat).toNat = 2 ^ n.toNat := by
          simp [BitVec.toNat_shiftLeft, Nat.shiftLeft_eq]; exact h1
        rw [BitVec.toNat_sub, h3, BitVec.toNat_ofNat, BitVec.toNat_ofNat]
        generalize 2 ^ n.toNat = X at h1 h2
        omega
      rw [e, BitVec.getLsbD_ofNat, Nat.testBit_two_pow_sub_one]
      by_cases a : i < 64 <;> by_cases b : i < n.toNat <;> simp [a, b] <;> omega

/-- The set of those numbers below 'j' (and 64) of which p is so. -/
def bitsTo (p : Nat → Bool) : Nat → BitVec 64
  | 0 => 0#64
  | i + 1 => if p i then bitsTo p i ||| (1#64 <<< i) else bitsTo p i
theorem getLsbD_one_shl (i k : Nat) : (1#64 <<< i).getLsbD k = (decide (k < 64) && decide (k = i)) := by
  rw [BitVec.getLsbD_shiftLeft]
  simp
  by_cases h1 : k < 64 <;> by_cases h2 : k = i <;> simp [h1, h2] <;> omega
theorem getLsbD_bitsTo (p : Nat → Bool) (j i : Nat) : (bitsTo p j).getLsbD i = (decide (i < j) && decide (i < 64) && p i) := by
  induction j with
  | zero => simp [bitsTo]
  | succ j ih =>
    unfold bitsTo
    by_cases hp : p j = true
    · rw [if_pos hp, BitVec.getLsbD_or, ih, getLsbD_one_shl]
      by_cases h2 : i = j
      · subst h2; by_cases h1 : i < 64 <;> simp [h1, hp]
      · by_cases h1 : i < 64 <;> by_cases h3 : i < j <;> simp [h1, h2, h3] <;> omega
    · rw [if_neg hp, ih]
      by_cases h2 : i = j
      · subst h2; simp [hp]
      · by_cases h1 : i < 64 <;> by_cases h3 : i < j <;> simp [h1, h3] <;> omega
/-- The set of the numbers of a list. -/
def ofl (l : List Int) : BitVec 64 := bitsTo (fun i => l.contains (i : Int)) 64
theorem getLsbD_ofl (l : List Int) (i : Nat) : (ofl l).getLsbD i = (decide (i < 64) && l.contains (i : Int)) := by
  rw [ofl, getLsbD_bitsTo]; by_cases h : i < 64 <;> simp [h]
def inB (i : Int) : Bool := decide (0 ≤ i ∧ i < 64)
/-- Is a number in a set? -/
def hasB (s : BitVec 64) (i : Int) : Bool := inB i && s.getLsbD i.toNat
def withB (s : BitVec 64) (i : Int) : BitVec 64 := if inB i then s ||| (1#64 <<< (BitVec.ofInt 64 i).toNat) else s
def lessB (s : BitVec 64) (i : Int) : BitVec 64 := if inB i then s &&& ~~~(1#64 <<< (BitVec.ofInt 64 i).toNat) else s
/-- The numbers of a set, rising. -/
def lstTo (s : BitVec 64) (j : Nat) : List Int := ((List.range j).filter (s.getLsbD ·)).map fun (i : Nat) => (i : Int)
def lst (s : BitVec 64) : List Int := lstTo s 64
def subB (a b : BitVec 64) : Bool := decide (a &&& ~~~b = 0#64)

theorem getLsbD_withB (s : BitVec 64) (i : Int) (k : Nat) : (withB s i).getLsbD k = (s.getLsbD k || (decide (k < 64) && decide ((k : Int) = i))) := by
  unfold withB inB
  by_cases h : 0 ≤ i ∧ i < 64
  · rw [if_pos (by simpa using h), BitVec.getLsbD_or, getLsbD_one_shl, ofInt_toNat (by omega)]
    by_cases h1 : k < 64 <;> by_cases h2 : (k : Int) = i
    · have h3 : k = i.toNat := by omega
      rw [decide_eq_true h3, decide_eq_true h2]
    · have h3 : ¬ k = i.toNat := by omega
      rw [decide_eq_false h3, decide_eq_false h2]
    · omega
    · rw [decide_eq_false h1]; rfl
  · rw [if_neg (by simpa using h)]
    by_cases h1 : k < 64 <;> by_cases h2 : (k : Int) = i <;> simp [h1, h2] <;> omega
theorem getLsbD_lessB (s : BitVec 64) (i : Int) (k : Nat) : (lessB s i).getLsbD k = (s.getLsbD k && !decide ((k : Int) = i)) := by
  unfold lessB inB
  by_cases hk : k < 64
  · by_cases h : 0 ≤ i ∧ i < 64
    · rw [if_pos (by simpa using h), BitVec.getLsbD_and, BitVec.getLsbD_not, getLsbD_one_shl, ofInt_toNat (by omega)]
      by_cases h2 : (k : Int) = i
      · have h3 : k = i.toNat := by omega
        rw [decide_eq_true h3, decide_eq_true h2, decide_eq_true hk]; simp
      · have h3 : ¬ k = i.toNat := by omega
        rw [decide_eq_false h3, decide_eq_false h2, decide_eq_true hk]; simp
    · rw [if_neg (by simpa using h)]
      have : ¬ (k : Int) = i := by omega
      simp [this]
  · rw [BitVec.getLsbD_of_ge _ _ (by omega), BitVec.getLsbD_of_ge _ _ (by omega)]; rfl
theorem eq_of_bits {a b : BitVec 64} (h : ∀ i, i < 64 → a.getLsbD i = b.getLsbD i) : a = b := BitVec.eq_of_getLsbD_eq (fun i hi => h i hi)
theorem withB_ofl (l : List Int) (i : Int) : withB (ofl l) i = ofl (l ++ [i]) := eq_of_bits fun k hk => by
  rw [getLsbD_withB, getLsbD_ofl, getLsbD_ofl]
  simp [hk, List.contains_eq_mem]
theorem ofl_nil : ofl [] = 0#64 := eq_of_bits fun k hk => by rw [getLsbD_ofl]; simp
theorem mem_lstTo (s : BitVec 64) (j : Nat) (i : Int) : i ∈ lstTo s j ↔ 0 ≤ i ∧ i < j ∧ s.getLsbD i.toNat = true := by
  simp only [lstTo, List.mem_map, List.mem_filter, List.mem_range]
  constructor
  · rintro ⟨a, ⟨h1, h2⟩, rfl⟩; exact ⟨by omega, by omega, by simpa using h2⟩
  · rintro ⟨h1, h2, h3⟩; exact ⟨i.toNat, ⟨by omega, h3⟩, by omega⟩
theorem mem_lst (s : BitVec 64) (i : Int) : i ∈ lst s ↔ hasB s i = true := by
  rw [lst, mem_lstTo, hasB, inB, Bool.and_eq_true, decide_eq_true_eq]
  exact ⟨fun ⟨a, b, c⟩ => ⟨⟨a, by omega⟩, c⟩, fun ⟨⟨a, b⟩, c⟩ => ⟨a, by omega, c⟩⟩
theorem ofl_lst (s : BitVec 64) : ofl (lst s) = s := eq_of_bits fun k hk => by
  rw [getLsbD_ofl]
  have := mem_lst s (k : Int)
  have hc : (lst s).contains (k : Int) = hasB s k := by
    rw [Bool.eq_iff_iff, ← this]; simp
  rw [hc, hasB, inB]; simp [hk]; omega
theorem lstTo_succ (s : BitVec 64) (j : Nat) : lstTo s (j + 1) = lstTo s j ++ (if s.getLsbD j then [(j : Int)] else []) := by
  simp only [lstTo, List.range_succ, List.filter_append, List.map_append]
  congr 1
  by_cases h : s.getLsbD j = true <;> simp [h]
theorem lstTo_len (s : BitVec 64) (j : Nat) : (lstTo s j).length ≤ j := by
  have := List.length_filter_le (s.getLsbD ·) (List.range j)
  simpa [lstTo] using this
theorem lst_len (s : BitVec 64) : (lst s).length ≤ 64 := lstTo_len s 64
theorem subB_iff (a b : BitVec 64) : subB a b = true ↔ ∀ i, i < 64 → a.getLsbD i = true → b.getLsbD i = true := by
  unfold subB
  rw [decide_eq_true_eq]
  constructor
  · intro h i hi ha
    have := congrArg (fun z => BitVec.getLsbD z i) h
    simp [hi, ha] at this
    exact this
  · intro h
    refine eq_of_bits fun i hi => ?_
    have := h i hi
    simp only [BitVec.getLsbD_and, BitVec.getLsbD_not, hi, decide_true, Bool.true_and, BitVec.getLsbD_zero]
    cases ha : a.getLsbD i
    · rfl
    · rw [this ha]; rfl
theorem bool_eq {a b : Bool} (h : a = true ↔ b = true) : a = b := Bool.eq_iff_iff.2 h

theorem has_bit (s : BitVec 64) {i : Int} (h : inB i = true) : decide (s >>> (BitVec.ofInt 64 i).toNat &&& 1#64 = 1#64) = hasB s i := by
  have h' : 0 ≤ i ∧ i < 64 := by simpa [inB] using h
  rw [hasB, h, Bool.true_and, ofInt_toNat (by omega)]
  have key : s >>> i.toNat &&& 1#64 = if s.getLsbD i.toNat then 1#64 else 0#64 := by
    refine eq_of_bits fun k hk => ?_
    by_cases hb : s.getLsbD i.toNat = true
    · rw [if_pos hb]
      simp only [BitVec.getLsbD_and, BitVec.getLsbD_ushiftRight]
      by_cases h0 : k = 0
      · subst h0; simp [hb]
      · simp [BitVec.getLsbD_one, h0]
    · rw [if_neg hb]
      simp only [BitVec.getLsbD_and, BitVec.getLsbD_ushiftRight]
      by_cases h0 : k = 0
      · subst h0; simpa using hb
      · simp [BitVec.getLsbD_one, h0]
  rw [key]
  by_cases hb : s.getLsbD i.toNat = true
  · rw [if_pos hb, hb]; rfl
  · rw [if_neg hb]; simp at hb; rw [hb]; rfl
theorem has_no (s : BitVec 64) {i : Int} (h : inB i = false) : hasB s i = false := by rw [hasB, h]; rfl
theorem rem_bit (s : BitVec 64) (k : Nat) : (s >>> k) % 2#64 = 1#64 ↔ s.getLsbD k = true := by
  have : (s >>> k) % 2#64 = 1#64 ↔ (s >>> k).toNat % 2 = 1 := by
    rw [← BitVec.toNat_inj]; simp
  rw [this]
  have h2 : (s >>> k).getLsbD 0 = s.getLsbD k := by simp
  rw [← h2, BitVec.getLsbD, Nat.testBit_zero, decide_eq_true_eq]
theorem half (s : BitVec 64) (k : Nat) : (s >>> k) / 2#64 = s >>> (k + 1) := by
  apply BitVec.eq_of_toNat_eq
  simp only [BitVec.toNat_udiv, BitVec.toNat_ushiftRight, Nat.shiftRight_add]
  rfl
/-- The bits of a list below 'j'. -/
def oflTo (l : List Int) (j : Nat) : BitVec 64 := bitsTo (fun i => l.contains (i : Int)) j
theorem add_bit {p : Nat → Bool} {j : Nat} (hj : j < 64) : bitsTo p j + (1#64 <<< j) = bitsTo p j ||| (1#64 <<< j) := by
  refine BitVec.add_eq_or_of_and_eq_zero _ _ (eq_of_bits fun k hk => ?_)
  rw [BitVec.getLsbD_and, getLsbD_bitsTo, getLsbD_one_shl]
  by_cases h : k = j
  · subst h; simp
  · simp [h]
theorem oflTo_yes {l : List Int} {j : Nat} (hj : j < 64) (h : (j : Int) ∈ l) : oflTo l j + (1#64 <<< j) = oflTo l (j + 1) := by
  rw [oflTo, add_bit hj, oflTo, bitsTo, if_pos (by simpa using h)]
theorem oflTo_yesI {l : List Int} {i k : Int} (h0 : 0 ≤ i) (hi : i < 64) (hk : 0 ≤ k) (hkl : k < l.length) (h : l.getD k.toNat 0 = i) : oflTo l i.toNat + (1#64 <<< i.toNat) = oflTo l (i + 1).toNat := by
  rw [show (i + 1).toNat = i.toNat + 1 by omega]
  refine oflTo_yes (by omega) ?_
  rw [show ((i.toNat : Nat) : Int) = i by omega, ← h, List.getD_eq_getElem?_getD, List.getElem?_eq_getElem (by omega)]
  exact List.getElem_mem _
theorem oflTo_no {l : List Int} {j : Nat} (h : ¬ (j : Int) ∈ l) : oflTo l j = oflTo l (j + 1) := by
  rw [oflTo, oflTo, bitsTo, if_neg (by simpa using h)]
theorem oflTo_noI {l : List Int} {i : Int} (h0 : 0 ≤ i) (hf : ∀ j : Int, 0 ≤ j → j < l.length → l.getD j.toNat 0 ≠ i) : oflTo l i.toNat = oflTo l (i + 1).toNat := by
  rw [show (i + 1).toNat = i.toNat + 1 by omega]
  refine oflTo_no fun hm => ?_
  rw [show ((i.toNat : Nat) : Int) = i by omega] at hm
  obtain ⟨j, hj, he⟩ := List.mem_iff_getElem.1 hm
  refine hf j (by omega) (by omega) ?_
  rw [Int.toNat_natCast, List.getD_eq_getElem?_getD, List.getElem?_eq_getElem hj]; exact he
theorem shl_two (j : Nat) : (1#64 <<< j) * 2#64 = 1#64 <<< (j + 1) := by
  apply BitVec.eq_of_toNat_eq
  have h1 : (1#64).toNat = 1 := rfl
  have h2 : (2#64).toNat = 2 := rfl
  rw [BitVec.toNat_mul, BitVec.toNat_shiftLeft, BitVec.toNat_shiftLeft, Nat.shiftLeft_eq, Nat.shiftLeft_eq, h1, h2, Nat.one_mul, Nat.one_mul, Nat.mod_mul_mod]
  rfl
theorem take_next {l : List Int} {k : Int} (h0 : 0 ≤ k) (h : k < l.length) : l.take (k + 1).toNat = l.take k.toNat ++ [l.getD k.toNat 0] := by
  rw [show (k + 1).toNat = k.toNat + 1 by omega, List.take_succ_eq_append_getElem (by omega), List.getD_eq_getElem?_getD, List.getElem?_eq_getElem (by omega)]; rfl
theorem take_all {l : List Int} {k : Int} (h : ¬ k < l.length) : l.take k.toNat = l := List.take_of_length_le (by omega)
theorem below_eq_ofl {l : List Int} {n : Int} (h : ∀ i : Int, 0 ≤ i → i < 64 → (i ∈ l ↔ i < n)) : ofl l = below n := eq_of_bits fun k hk => by
  rw [getLsbD_ofl, getLsbD_below]
  have := h k (by omega) (by omega)
  rw [Bool.eq_iff_iff]; simp [hk, this]
/-- The first 'j' whole numbers. -/
def upto (j : Int) : List Int := (List.range j.toNat).map fun (i : Nat) => (i : Int)
theorem upto_succ {j : Int} (h : 0 ≤ j) : upto j ++ [j] = upto (j + 1) := by
  unfold upto
  rw [show (j + 1).toNat = j.toNat + 1 by omega, List.range_succ, List.map_append, List.map_singleton, show ((j.toNat : Nat) : Int) = j by omega]
theorem upto_len {j : Int} : (upto j).length = j.toNat := by simp [upto]
theorem mem_upto {j i : Int} : i ∈ upto j ↔ 0 ≤ i ∧ i < j := by
  simp only [upto, List.mem_map, List.mem_range]
  constructor
  · rintro ⟨a, h1, rfl⟩; omega
  · rintro ⟨h1, h2⟩; exact ⟨i.toNat, by omega, by omega⟩
theorem lstTo_yes {s : BitVec 64} {j : Int} (h0 : 0 ≤ j) (h : (s >>> j.toNat) % 2#64 = 1#64) : lstTo s j.toNat ++ [j] = lstTo s (j + 1).toNat := by
  rw [show (j + 1).toNat = j.toNat + 1 by omega, lstTo_succ, if_pos ((rem_bit s _).1 h), show ((j.toNat : Nat) : Int) = j by omega]
theorem lstTo_no {s : BitVec 64} {j : Int} (h0 : 0 ≤ j) (h : ¬ (s >>> j.toNat) % 2#64 = 1#64) : lstTo s j.toNat = lstTo s (j + 1).toNat := by
  rw [show (j + 1).toNat = j.toNat + 1 by omega, lstTo_succ, if_neg (fun e => h ((rem_bit s _).2 e)), List.append_nil]
theorem lstTo_end {s : BitVec 64} {j : Int} (h : ¬ j < 64) (h' : j ≤ 64) : lstTo s j.toNat = lst s := by rw [show j.toNat = 64 by omega]; rfl
theorem getD_mem {l : List Int} {k : Int} (h0 : 0 ≤ k) (h : k < l.length) : l.getD k.toNat 0 ∈ l := by
  rw [List.getD_eq_getElem?_getD, List.getElem?_eq_getElem (by omega)]; exact List.getElem_mem _
/-- A set is within another one just if each of its numbers is in it. -/
theorem subB_lst (a b : BitVec 64) : subB a b = (lst a).all (hasB b ·) := by
  rw [Bool.eq_iff_iff, subB_iff, List.all_eq_true]
  constructor
  · intro h i hi
    have := (mem_lst a i).1 hi
    simp only [hasB, inB, Bool.and_eq_true, decide_eq_true_eq] at this ⊢
    exact ⟨this.1, h _ (by omega) this.2⟩
  · intro h i hi ha
    have := h i ((mem_lst a i).2 (by simp [hasB, inB, ha]; omega))
    simp only [hasB, inB, Bool.and_eq_true, decide_eq_true_eq] at this
    simpa using this.2

/-! ### Chains -/
def topv (n : Int) : BitVec 64 := if 1 ≤ n ∧ n ≤ 64 then below (n - 1) else 0#64
theorem wordv_is {n k : Int} (h : (wordv n k).2 = true) : 1 ≤ n ∧ n ≤ 64 ∧ 0 ≤ k ∧ k < n := by
  by_cases hc : 1 ≤ n ∧ n ≤ 64 ∧ 0 ≤ k ∧ k < n
  · exact hc
  · rw [wordv_no hc] at h; cases h
theorem wordv_isnt {n k : Int} (h : (wordv n k).2 = false) : ¬ (1 ≤ n ∧ n ≤ 64 ∧ 0 ≤ k ∧ k < n) := fun hc => by rw [wordv_yes hc] at h; cases h
theorem level_step1 {n k : Int} {s : BitVec 64} (h0 : 0 ≤ k) (hi : (wordv n k).2 = true) (hne : ¬ (wordv n k).1 = s) (hf : n ≤ 64 → ∀ j : Int, 0 ≤ j → j < k → s ≠ below j) : n ≤ 64 → ∀ j : Int, 0 ≤ j → j < k + 1 → s ≠ below j := by
  intro hn j a b
  by_cases e : j = k
  · subst e; rw [wordv_yes (wordv_is hi)] at hne; exact fun e => hne e.symm
  · exact hf hn j a (by omega)
theorem level_step2 {n k : Int} {s : BitVec 64} (h0 : 0 ≤ k) (hk : k < n) (hf : n ≤ 64 → ∀ j : Int, 0 ≤ j → j < k → s ≠ below j) (hi : (wordv n k).2 = false) : n ≤ 64 → ∀ j : Int, 0 ≤ j → j < k + 1 → s ≠ below j := by
  intro hn
  have := wordv_isnt hi
  omega
theorem level_ref {n k : Int} {s : BitVec 64} (h0 : 0 ≤ k) (hi : (wordv n k).2 = true) (hf : n ≤ 64 → ∀ j : Int, 0 ≤ j → j < k → s ≠ below j) (he : (wordv n k).1 = s) : level n s = (k, true) := by
  have h := wordv_is hi
  rw [wordv_yes h] at he
  exact level_at ⟨h.1, h.2.1⟩ h0 h.2.2.2 he.symm (hf h.2.1)
theorem level_refnone {n k : Int} {s : BitVec 64} (h0 : 0 ≤ k) (hk : k ≤ n ∨ k = 0) (h6 : k ≤ 64) (hf : n ≤ 64 → ∀ j : Int, 0 ≤ j → j < k → s ≠ below j) (he : ¬ (k < n ∧ k < 64)) : level n s = (0, false) := by
  by_cases hn : 1 ≤ n ∧ n ≤ 64
  · exact level_none hn (fun j a b => hf hn.2 j a (by omega))
  · exact level_no s hn
theorem below_inj {j k : Int} (h0 : 0 ≤ j) (hjk : j < k) (hk : k ≤ 64) : below k ≠ below j := fun e => by
  have := congrArg (fun z => BitVec.getLsbD z j.toNat) e
  simp only [getLsbD_below] at this
  rw [decide_eq_true (by omega), decide_eq_false (by omega)] at this
  cases this
theorem level_word {n k : Int} (h : 1 ≤ n ∧ n ≤ 64 ∧ 0 ≤ k ∧ k < n) : level n (wordv n k).1 = (k, true) := by
  rw [wordv_yes h]
  exact level_at ⟨h.1, h.2.1⟩ h.2.2.1 h.2.2.2 rfl (fun j a b => below_inj a b (by omega))
theorem below_sub {i j : Int} (hi : 0 ≤ i) (hi' : i ≤ 63) (hj : 0 ≤ j) : subB (below i) (below j) = decide (i ≤ j) := by
  rw [Bool.eq_iff_iff, subB_iff, decide_eq_true_eq]
  constructor
  · intro h
    by_cases hc : i ≤ j
    · exact hc
    · have := h j.toNat (by omega) (by rw [getLsbD_below]; simp; omega)
      rw [getLsbD_below] at this; simp at this; omega
  · intro h k hk hb
    rw [getLsbD_below] at hb ⊢; simp at hb ⊢; omega
theorem below_or (i j : Int) : below i ||| below j = below (max i j) := eq_of_bits fun k hk => by
  rw [BitVec.getLsbD_or, getLsbD_below, getLsbD_below, getLsbD_below, Bool.eq_iff_iff]; simp; omega
theorem below_and (i j : Int) : below i &&& below j = below (min i j) := eq_of_bits fun k hk => by
  rw [BitVec.getLsbD_and, getLsbD_below, getLsbD_below, getLsbD_below, Bool.eq_iff_iff]; simp; omega
/-- How many numbers a set has, as math/bits reckons it. -/
def pop (s : BitVec 64) : Int :=
  let x := (s >>> 1 &&& 6148914691236517205#64) + (s &&& 6148914691236517205#64)
  let x := (x >>> 2 &&& 3689348814741910323#64) + (x &&& 3689348814741910323#64)
  let x := (x >>> 4 + x) &&& 1085102592571150095#64
  let x := x + x >>> 8
  let x := x + x >>> 16
  let x := x + x >>> 32
  (x &&& 127#64).toInt
theorem pop_below {n : Int} (h0 : 0 ≤ n) (h : n < 64) : pop (below n) = n := by
  have key : ∀ k : Fin 64, pop (below (k.val : Int)) = (k.val : Int) := by decide +kernel
  have := key ⟨n.toNat, by omega⟩
  simpa [show ((n.toNat : Nat) : Int) = n by omega] using this
theorem rung_b0 {n k : Int} (h : (!(wordv n k).2) = true) : (wordv n k).1 = 0#64 := by rw [wordv_no (wordv_isnt (by simpa using h))]
theorem rung_b1 {n k : Int} (h : (!(wordv n k).2) = false) : (level n (wordv n k).1).2 = true := by rw [level_word (wordv_is (by simpa using h))]
theorem rung_b2 {n k : Int} (h : (!(wordv n k).2) = false) : (level n (wordv n k).1).1 = k := by rw [level_word (wordv_is (by simpa using h))]
theorem rung_b3 {n k : Int} (h : (!(wordv n k).2) = false) : subB (wordv n k).1 (topv n) = true := by
  have hw := wordv_is (n := n) (k := k) (by simpa using h)
  rw [wordv_yes hw, topv, if_pos ⟨hw.1, hw.2.1⟩, below_sub hw.2.2.1 (by omega) (by omega)]; simp; omega
theorem rung_b4 {n k : Int} (h : (!(wordv n k).2) = false) : pop (topv n) = n - 1 := by
  have hw := wordv_is (n := n) (k := k) (by simpa using h)
  rw [topv, if_pos ⟨hw.1, hw.2.1⟩, pop_below (by omega) (by omega)]
theorem rung_b5 {n k : Int} (h : (!(wordv n k).2) = false) : -9223372036854775808 ≤ n - 1 ∧ n - 1 ≤ 9223372036854775807 := by
  have hw := wordv_is (n := n) (k := k) (by simpa using h); omega
theorem rung_o1 {n i j : Int} (hi : (wordv n i).2 = true) (hj : (wordv n j).2 = true) : (subB (wordv n i).1 (wordv n j).1 == decide (i ≤ j)) = true := by
  have a := wordv_is hi; have b := wordv_is hj
  rw [wordv_yes a, wordv_yes b, below_sub a.2.2.1 (by omega) b.2.2.1]; simp
theorem rung_o2 {n i j : Int} (hi : (wordv n i).2 = true) (hj : (wordv n j).2 = true) : (wordv n i).1 ||| (wordv n j).1 = (wordv n (max i j)).1 := by
  have a := wordv_is hi; have b := wordv_is hj
  rw [wordv_yes a, wordv_yes b, wordv_yes (by omega)]; exact below_or i j
theorem rung_o3 {n i j : Int} (hi : (wordv n i).2 = true) (hj : (wordv n j).2 = true) : (wordv n i).1 &&& (wordv n j).1 = (wordv n (min i j)).1 := by
  have a := wordv_is hi; have b := wordv_is hj
  rw [wordv_yes a, wordv_yes b, wordv_yes (by omega)]; exact below_and i j

/-! ### The least number of a set -/
theorem sorted_ext : ∀ {l m : List Int}, l.Pairwise (· < ·) → m.Pairwise (· < ·) → (∀ x, x ∈ l ↔ x ∈ m) → l = m
  | [], [], _, _, _ => rfl
  | [], b :: m, _, _, h => by have := (h b).2 (by simp); simp at this
  | a :: l, [], _, _, h => by have := (h a).1 (by simp); simp at this
  | a :: l, b :: m, hl, hm, h => by
    have hl' := List.pairwise_cons.1 hl
    have hm' := List.pairwise_cons.1 hm
    have hab : a = b := by
      rcases List.mem_cons.1 ((h a).1 (by simp)) with h1 | h1
      · exact h1
      · rcases List.mem_cons.1 ((h b).2 (by simp)) with h2 | h2
        · exact h2.symm
        · have := hm'.1 a h1; have := hl'.1 b h2; omega
    subst hab
    congr 1
    refine sorted_ext hl'.2 hm'.2 fun x => ?_
    constructor
    · intro hx
      rcases List.mem_cons.1 ((h x).1 (List.mem_cons_of_mem _ hx)) with h1 | h1
      · have := hl'.1 x hx; omega
      · exact h1
    · intro hx
      rcases List.mem_cons.1 ((h x).2 (List.mem_cons_of_mem _ hx)) with h1 | h1
      · have := hm'.1 x hx; omega
      · exact h1
theorem lst_sorted (s : BitVec 64) : (lst s).Pairwise (· < ·) := by
  unfold lst lstTo
  refine List.pairwise_map.2 ((List.Pairwise.filter _ List.pairwise_lt_range).imp ?_)
  intro a b h; omega
theorem lst_eq_nil {s : BitVec 64} : lst s = [] ↔ s = 0#64 := by
  constructor
  · intro h; rw [← ofl_lst s, h, ofl_nil]
  · rintro rfl; simp [lst, lstTo]
/-- 'j' is the least number of s. -/
def Low (s : BitVec 64) (j : Nat) : Prop := j < 64 ∧ s.getLsbD j = true ∧ ∀ i, i < j → s.getLsbD i = false
theorem low_exists {s : BitVec 64} (h : s ≠ 0#64) : ∃ j, Low s j := by
  have hne : lst s ≠ [] := fun e => h (lst_eq_nil.1 e)
  obtain ⟨a, l, e⟩ := List.exists_cons_of_ne_nil hne
  have ha := (mem_lst s a).1 (by rw [e]; simp)
  simp only [hasB, inB, Bool.and_eq_true, decide_eq_true_eq] at ha
  refine ⟨a.toNat, by omega, ha.2, fun i hi => ?_⟩
  cases hb : s.getLsbD i with
  | false => rfl
  | true =>
    have hm := (mem_lst s (i : Int)).2 (by simp [hasB, inB, hb]; omega)
    rw [e] at hm
    have hs := lst_sorted s
    rw [e] at hs
    rcases List.mem_cons.1 hm with h1 | h1
    · omega
    · have := (List.pairwise_cons.1 hs).1 _ h1; omega
theorem low_form {s : BitVec 64} {j : Nat} (h : Low s j) : ∃ m, s.toNat = 2 ^ j * (2 * m + 1) := by
  obtain ⟨hj, hb, hz⟩ := h
  have h1 : s.toNat % 2 ^ j = 0 := by
    apply Nat.eq_of_testBit_eq
    intro i
    rw [Nat.testBit_mod_two_pow, Nat.zero_testBit]
    by_cases hi : i < j
    · have := hz i hi; rw [BitVec.getLsbD] at this; simp [this]
    · simp [hi]
  have h2 : s.toNat / 2 ^ j % 2 = 1 := by
    rw [BitVec.getLsbD, Nat.testBit_eq_decide_div_mod_eq] at hb
    simpa using hb
  refine ⟨s.toNat / 2 ^ j / 2, ?_⟩
  have h3 := Nat.div_add_mod s.toNat (2 ^ j)
  have h4 := Nat.div_add_mod (s.toNat / 2 ^ j) 2
  rw [h2] at h4
  rw [h4]; omega
theorem sub_one_bit {s : BitVec 64} {j : Nat} (h : Low s j) {i : Nat} (hi : i < 64) : (s - 1#64).getLsbD i = if i < j then true else if i = j then false else s.getLsbD i := by
  obtain ⟨m, hm⟩ := low_form h
  have hp : 0 < 2 ^ j := Nat.two_pow_pos j
  have hlt := s.isLt
  have h1 : (s - 1#64).toNat = 2 ^ j * (2 * m) + (2 ^ j - 1) := by
    rw [BitVec.toNat_sub]
    have e : (1#64).toNat = 1 := rfl
    have e2 : 2 ^ j * (2 * m + 1) = 2 ^ j * (2 * m) + 2 ^ j := by rw [Nat.mul_add, Nat.mul_one]
    rw [e]; omega
  rw [BitVec.getLsbD, h1, Nat.testBit_two_pow_mul_add _ (by omega)]
  by_cases h2 : i < j
  · rw [if_pos h2, if_pos h2, Nat.testBit_two_pow_sub_one]; simp [h2]
  · rw [if_neg h2, if_neg h2]
    by_cases h3 : i = j
    · subst h3; rw [if_pos rfl, Nat.sub_self]; simp
    · rw [if_neg h3, BitVec.getLsbD, hm]
      have e2 : 2 ^ j * (2 * m + 1) = 2 ^ j * (2 * m + 1) + 0 := by omega
      rw [e2, Nat.testBit_two_pow_mul_add _ hp, if_neg h2]
      obtain ⟨k, hk⟩ : ∃ k, i - j = k + 1 := ⟨i - j - 1, by omega⟩
      rw [hk, Nat.testBit_succ, Nat.testBit_succ]
      congr 1; omega
theorem clear_low {s : BitVec 64} {j : Nat} (h : Low s j) {i : Nat} (hi : i < 64) : (s &&& (s - 1#64)).getLsbD i = (s.getLsbD i && !decide (i = j)) := by
  rw [BitVec.getLsbD_and, sub_one_bit h hi]
  by_cases h1 : i < j
  · rw [if_pos h1, h.2.2 i h1]; rfl
  · rw [if_neg h1]
    by_cases h2 : i = j
    · rw [if_pos h2]; simp [h2]
    · rw [if_neg h2]; simp [h2]
theorem lst_low {s : BitVec 64} {j : Nat} (h : Low s j) : lst s = (j : Int) :: lst (s &&& (s - 1#64)) := by
  refine sorted_ext (lst_sorted s) (List.pairwise_cons.2 ⟨fun x hx => ?_, lst_sorted _⟩) fun x => ?_
  · have := (mem_lst _ x).1 hx
    simp only [hasB, inB, Bool.and_eq_true, decide_eq_true_eq] at this
    obtain ⟨⟨h0, h1⟩, h2⟩ := this
    rw [clear_low h (by omega)] at h2
    simp only [Bool.and_eq_true, Bool.not_eq_true', decide_eq_false_iff_not] at h2
    rcases Nat.lt_or_ge x.toNat j with hlt | hge
    · rw [h.2.2 _ hlt] at h2; cases h2.1
    · omega
  · rw [mem_lst, List.mem_cons, mem_lst]
    simp only [hasB, inB, Bool.and_eq_true, decide_eq_true_eq]
    constructor
    · rintro ⟨h1, h2⟩
      by_cases hx : x = j
      · exact .inl hx
      · refine .inr ⟨h1, ?_⟩
        rw [clear_low h (by omega), h2]; simp; omega
    · rintro (rfl | ⟨h1, h2⟩)
      · have := h.1; exact ⟨by omega, by simpa using h.2.1⟩
      · rw [clear_low h (by omega)] at h2
        simp only [Bool.and_eq_true] at h2
        exact ⟨h1, h2.1⟩
theorem neg_low {s : BitVec 64} {j : Nat} (h : Low s j) : s &&& -s = 1#64 <<< j := by
  have hn : -s = ~~~(s - 1#64) := by
    apply BitVec.eq_of_toNat_eq
    rw [BitVec.toNat_neg, BitVec.toNat_not, BitVec.toNat_sub]
    have e : (1#64).toNat = 1 := rfl
    have := s.isLt
    rw [e]; omega
  refine eq_of_bits fun i hi => ?_
  rw [hn, BitVec.getLsbD_and, BitVec.getLsbD_not, sub_one_bit h hi, getLsbD_one_shl]
  by_cases h1 : i < j
  · rw [if_pos h1, h.2.2 i h1]; simp; omega
  · rw [if_neg h1]
    by_cases h2 : i = j
    · rw [if_pos h2, h2, h.2.1]; simp
    · rw [if_neg h2]; cases s.getLsbD i <;> simp [h2]
/-- The table by which math/bits finds the place of a lone bit. -/
def tztab : List Int := [0, 1, 56, 2, 57, 49, 28, 3, 61, 58, 42, 50, 38, 29, 17, 4, 62, 47, 59, 36, 45, 43, 51, 22, 53, 39, 33, 30, 24, 18, 12, 5, 63, 55, 48, 27, 60, 41, 37, 16, 46, 35, 44, 21, 52, 32, 23, 11, 54, 26, 40, 15, 34, 20, 31, 10, 25, 14, 19, 9, 13, 8, 7, 6]
def tz (s : BitVec 64) : Int := if s = 0#64 then 64 else tztab.getD (((s &&& -s) * 285870213051353865#64) >>> 58).toNat 0
theorem tz_zero : tz 0#64 = 64 := rfl
theorem tz_idx (x : BitVec 64) : 0 ≤ ((x >>> 58).toNat : Int) ∧ ((x >>> 58).toNat : Int) < (64 : Nat) := by
  have : (x >>> 58).toNat < 64 := by
    rw [BitVec.toNat_ushiftRight, Nat.shiftRight_eq_div_pow]
    have := x.isLt
    omega
  omega
theorem tz_low {s : BitVec 64} {j : Nat} (h : Low s j) : tz s = j := by
  have hne : s ≠ 0#64 := fun e => by have := h.2.1; rw [e] at this; simp at this
  rw [tz, if_neg hne, neg_low h]
  have key : ∀ k : Fin 64, tztab.getD (((1#64 <<< k.val) * 285870213051353865#64) >>> 58).toNat 0 = (k.val : Int) := by decide +kernel
  exact key ⟨j, h.1⟩
theorem lst_tz {s : BitVec 64} (h : s ≠ 0#64) : lst s = tz s :: lst (s &&& (s - 1#64)) := by
  obtain ⟨j, hj⟩ := low_exists h
  rw [tz_low hj]; exact lst_low hj
theorem lst_clear_lt {s : BitVec 64} (h : s ≠ 0#64) : (lst (s &&& (s - 1#64))).length < (lst s).length := by
  rw [lst_tz h]; simp

/-! ### How many numbers a set has -/
def lanes : List Nat → Nat
  | [] => 0
  | d :: r => 2 ^ 8 * lanes r + d
theorem and_lane {t a b c e : Nat} (ha : a < 2 ^ 8) (ht : t ≤ 8) (hc : c < 2 ^ (8 - t)) : ((2 ^ 8 * b + a) >>> t) &&& (2 ^ 8 * e + c) = 2 ^ 8 * ((b >>> t) &&& e) + ((a >>> t) &&& c) := by
  have hc8 : c < 2 ^ 8 := Nat.lt_of_lt_of_le hc (Nat.pow_le_pow_right (by omega) (by omega))
  have hac : (a >>> t) &&& c < 2 ^ 8 := Nat.lt_of_le_of_lt Nat.and_le_right hc8
  apply Nat.eq_of_testBit_eq
  intro i
  rw [Nat.testBit_and, Nat.testBit_shiftRight, Nat.testBit_two_pow_mul_add _ ha, Nat.testBit_two_pow_mul_add _ hc8, Nat.testBit_two_pow_mul_add _ hac]
  by_cases h1 : i < 8
  · rw [if_pos h1, if_pos h1, Nat.testBit_and, Nat.testBit_shiftRight]
    by_cases h2 : t + i < 8
    · rw [if_pos h2]
    · have : c.testBit i = false := Nat.testBit_lt_two_pow (Nat.lt_of_lt_of_le hc (Nat.pow_le_pow_right (by omega) (by omega)))
      rw [this, Bool.and_false, Bool.and_false]
  · rw [if_neg h1, if_neg h1, if_neg (by omega), Nat.testBit_and, Nat.testBit_shiftRight]
    congr 2; omega
theorem lanes_and {t c : Nat} (ht : t ≤ 8) (hc : c < 2 ^ (8 - t)) : ∀ ds : List Nat, (∀ d ∈ ds, d < 2 ^ 8) → (lanes ds >>> t) &&& lanes (ds.map fun _ => c) = lanes (ds.map fun d => (d >>> t) &&& c)
  | [], _ => by simp [lanes]
  | d :: r, h => by
    simp only [List.map_cons, lanes]
    rw [and_lane (h d (by simp)) ht hc, lanes_and ht hc r (fun x hx => h x (by simp [hx]))]
theorem lanes_add (f g : Nat → Nat) : ∀ ds : List Nat, lanes (ds.map f) + lanes (ds.map g) = lanes (ds.map fun d => f d + g d)
  | [] => rfl
  | d :: r => by
    simp only [List.map_cons, lanes]
    rw [← lanes_add f g r]; omega
theorem lanes_lt : ∀ ds : List Nat, (∀ d ∈ ds, d < 2 ^ 8) → lanes ds < 2 ^ (8 * ds.length)
  | [], _ => by simp [lanes]
  | d :: r, h => by
    have h1 := lanes_lt r (fun x hx => h x (by simp [hx]))
    have h2 := h d (by simp)
    simp only [lanes, List.length_cons]
    have h3 : (2 : Nat) ^ (8 * (r.length + 1)) = 2 ^ 8 * 2 ^ (8 * r.length) := by rw [← Nat.pow_add]; congr 1; omega
    rw [h3]
    have h4 : 2 ^ 8 * (lanes r + 1) ≤ 2 ^ 8 * 2 ^ (8 * r.length) := Nat.mul_le_mul_left _ h1
    omega
def digs (x : Nat) : List Nat := [x % 256, x / 256 % 256, x / 65536 % 256, x / 16777216 % 256, x / 4294967296 % 256, x / 1099511627776 % 256, x / 281474976710656 % 256, x / 72057594037927936 % 256]
theorem lanes_digs {x : Nat} (h : x < 18446744073709551616) : lanes (digs x) = x := by
  simp only [digs, lanes]; omega
theorem digs_lt (x : Nat) : ∀ d ∈ digs x, d < 2 ^ 8 := by
  intro d hd
  simp only [digs, List.mem_cons, List.not_mem_nil, or_false] at hd
  omega
def g1 (d : Nat) : Nat := ((d >>> 1) &&& 85) + (d &&& 85)
def g2 (d : Nat) : Nat := ((d >>> 2) &&& 51) + (d &&& 51)
def pc8 (d : Nat) : Nat := (List.range 8).countP d.testBit
theorem byte_ok : ∀ d : Fin 256, g1 d.val < 256 ∧ g2 (g1 d.val) < 256 ∧ g2 (g1 d.val) / 16 ≤ 4 ∧ g2 (g1 d.val) % 16 ≤ 4 ∧ g2 (g1 d.val) / 16 + g2 (g1 d.val) % 16 = pc8 d.val := by decide +kernel
theorem stage {t c : Nat} (ht : t ≤ 8) (hc : c < 2 ^ (8 - t)) {ds : List Nat} (hl : ds.length = 8) (h : ∀ d ∈ ds, d < 2 ^ 8) {x m : BitVec 64} (hx : x.toNat = lanes ds) (hm : m.toNat = lanes (ds.map fun _ => c))
    (hg : ∀ d ∈ ds, ((d >>> t) &&& c) + (d &&& c) < 2 ^ 8) : ((x >>> t &&& m) + (x &&& m)).toNat = lanes (ds.map fun d => ((d >>> t) &&& c) + (d &&& c)) := by
  have h1 : (x >>> t &&& m).toNat = lanes (ds.map fun d => (d >>> t) &&& c) := by
    rw [BitVec.toNat_and, BitVec.toNat_ushiftRight, hx, hm, lanes_and ht hc ds h]
  have h2 : (x &&& m).toNat = lanes (ds.map fun d => d &&& c) := by
    have := lanes_and (t := 0) (c := c) (by omega) (Nat.lt_of_lt_of_le hc (Nat.pow_le_pow_right (by omega) (by omega))) ds h
    simp only [Nat.shiftRight_zero] at this
    rw [BitVec.toNat_and, hx, hm, this]
  rw [BitVec.toNat_add, h1, h2, lanes_add]
  refine Nat.mod_eq_of_lt ?_
  have := lanes_lt (ds.map fun d => ((d >>> t) &&& c) + (d &&& c)) (by
    intro d hd
    obtain ⟨a, ha, rfl⟩ := List.mem_map.1 hd
    exact hg a ha)
  simpa [hl] using this
theorem countP_split (x : Nat) : (List.range 64).countP x.testBit = ((digs x).map pc8).sum := by
  have key : ∀ (n : Nat) (y : Nat), (List.range (8 + n)).countP y.testBit = pc8 (y % 256) + (List.range n).countP (y / 256).testBit := by
    intro n y
    rw [List.range_add, List.countP_append, List.countP_map]
    congr 1
    · unfold pc8
      refine List.countP_congr fun i hi => ?_
      have : i < 8 := by simpa using hi
      have e : y % 256 = y % 2 ^ 8 := rfl
      rw [e, Nat.testBit_mod_two_pow]; simp [this]
    · refine List.countP_congr fun i _ => ?_
      have e : y / 256 = y / 2 ^ 8 := rfl
      simp only [Function.comp, e, Nat.testBit_div_two_pow, Nat.add_comm]
  rw [show (64 : Nat) = 8 + (8 + (8 + (8 + (8 + (8 + (8 + (8 + 0))))))) from rfl]
  rw [key, key, key, key, key, key, key, key]
  simp only [digs, List.map_cons, List.map_nil, List.sum_cons, List.sum_nil, List.range_zero, List.countP_nil, Nat.div_div_eq_div_mul]
theorem lst_length (s : BitVec 64) : (lst s).length = (List.range 64).countP s.toNat.testBit := by
  rw [lst, lstTo, List.length_map, List.countP_eq_length_filter]; rfl
theorem pop_tail {x2 : BitVec 64} {a0 a1 a2 a3 a4 a5 a6 a7 b0 b1 b2 b3 b4 b5 b6 b7 : Nat} (hx : x2.toNat = lanes [16 * a0 + b0, 16 * a1 + b1, 16 * a2 + b2, 16 * a3 + b3, 16 * a4 + b4, 16 * a5 + b5, 16 * a6 + b6, 16 * a7 + b7])
    (h0 : a0 ≤ 4 ∧ b0 ≤ 4) (h1 : a1 ≤ 4 ∧ b1 ≤ 4) (h2 : a2 ≤ 4 ∧ b2 ≤ 4) (h3 : a3 ≤ 4 ∧ b3 ≤ 4) (h4 : a4 ≤ 4 ∧ b4 ≤ 4) (h5 : a5 ≤ 4 ∧ b5 ≤ 4) (h6 : a6 ≤ 4 ∧ b6 ≤ 4) (h7 : a7 ≤ 4 ∧ b7 ≤ 4) :
    (x2 >>> 4 + x2 &&& 1085102592571150095#64).toNat = lanes [a0 + b0, a1 + b1, a2 + b2, a3 + b3, a4 + b4, a5 + b5, a6 + b6, a7 + b7] := by
  have hd : x2.toNat / 16 = lanes [a0 + 16 * b1, a1 + 16 * b2, a2 + 16 * b3, a3 + 16 * b4, a4 + 16 * b5, a5 + 16 * b6, a6 + 16 * b7, a7] := by
    rw [hx]; simp only [lanes]; omega
  have hs : (x2 >>> 4 + x2).toNat = lanes [a0 + 16 * b1 + (16 * a0 + b0), a1 + 16 * b2 + (16 * a1 + b1), a2 + 16 * b3 + (16 * a2 + b2), a3 + 16 * b4 + (16 * a3 + b3), a4 + 16 * b5 + (16 * a4 + b4), a5 + 16 * b6 + (16 * a5 + b5), a6 + 16 * b7 + (16 * a6 + b6), a7 + (16 * a7 + b7)] := by
    rw [BitVec.toNat_add, BitVec.toNat_ushiftRight, Nat.shiftRight_eq_div_pow]
    have e : x2.toNat / 2 ^ 4 = x2.toNat / 16 := rfl
    rw [e, hd, hx]
    simp only [lanes]
    rw [Nat.mod_eq_of_lt (by omega)]; omega
  rw [BitVec.toNat_and, hs]
  have := lanes_and (t := 0) (c := 15) (by omega) (by decide) [a0 + 16 * b1 + (16 * a0 + b0), a1 + 16 * b2 + (16 * a1 + b1), a2 + 16 * b3 + (16 * a2 + b2), a3 + 16 * b4 + (16 * a3 + b3), a4 + 16 * b5 + (16 * a4 + b4), a5 + 16 * b6 + (16 * a5 + b5), a6 + 16 * b7 + (16 * a6 + b6), a7 + (16 * a7 + b7)]
    (by intro d hd; simp only [List.mem_cons, List.not_mem_nil, or_false] at hd; rcases hd with h | h | h | h | h | h | h | h <;> omega)
  have hm : (1085102592571150095#64).toNat = lanes [15, 15, 15, 15, 15, 15, 15, 15] := by decide
  rw [Nat.shiftRight_zero] at this
  rw [hm]
  refine this.trans ?_
  have e15 : ∀ d e : Nat, d % 16 = e → d >>> 0 &&& 15 = e := fun d e h => by
    rw [Nat.shiftRight_zero, ← h]; exact Nat.and_two_pow_sub_one_eq_mod d 4
  simp only [List.map_cons, List.map_nil]
  rw [e15 _ (a0 + b0) (by omega), e15 _ (a1 + b1) (by omega), e15 _ (a2 + b2) (by omega), e15 _ (a3 + b3) (by omega), e15 _ (a4 + b4) (by omega), e15 _ (a5 + b5) (by omega), e15 _ (a6 + b6) (by omega), e15 _ (a7 + b7) (by omega)]
theorem pop_end {x3 : BitVec 64} {p0 p1 p2 p3 p4 p5 p6 p7 : Nat} (hx : x3.toNat = lanes [p0, p1, p2, p3, p4, p5, p6, p7]) (h0 : p0 ≤ 8) (h1 : p1 ≤ 8) (h2 : p2 ≤ 8) (h3 : p3 ≤ 8) (h4 : p4 ≤ 8) (h5 : p5 ≤ 8) (h6 : p6 ≤ 8) (h7 : p7 ≤ 8) :
    (((x3 + x3 >>> 8) + (x3 + x3 >>> 8) >>> 16) + ((x3 + x3 >>> 8) + (x3 + x3 >>> 8) >>> 16) >>> 32 &&& 127#64).toNat = p0 + p1 + p2 + p3 + p4 + p5 + p6 + p7 := by
  have e127 : (127#64).toNat = 2 ^ 7 - 1 := rfl
  have d3 : x3.toNat / 256 = lanes [p1, p2, p3, p4, p5, p6, p7] := by rw [hx]; simp only [lanes]; omega
  have a4 : (x3 + x3 >>> 8).toNat = lanes [p0 + p1, p1 + p2, p2 + p3, p3 + p4, p4 + p5, p5 + p6, p6 + p7, p7] := by
    rw [BitVec.toNat_add, BitVec.toNat_ushiftRight, Nat.shiftRight_eq_div_pow]
    have e : x3.toNat / 2 ^ 8 = x3.toNat / 256 := rfl
    rw [e, d3, hx]; simp only [lanes]
    rw [Nat.mod_eq_of_lt (by omega)]; omega
  generalize x3 + x3 >>> 8 = x4 at *
  clear d3 hx
  have d4 : x4.toNat / 65536 = lanes [p2 + p3, p3 + p4, p4 + p5, p5 + p6, p6 + p7, p7] := by rw [a4]; simp only [lanes]; omega
  have a5 : (x4 + x4 >>> 16).toNat = lanes [p0 + p1 + (p2 + p3), p1 + p2 + (p3 + p4), p2 + p3 + (p4 + p5), p3 + p4 + (p5 + p6), p4 + p5 + (p6 + p7), p5 + p6 + p7, p6 + p7, p7] := by
    rw [BitVec.toNat_add, BitVec.toNat_ushiftRight, Nat.shiftRight_eq_div_pow]
    have e : x4.toNat / 2 ^ 16 = x4.toNat / 65536 := rfl
    rw [e, d4, a4]; simp only [lanes]
    rw [Nat.mod_eq_of_lt (by omega)]; omega
  generalize x4 + x4 >>> 16 = x5 at *
  clear d4 a4
  have d5 : x5.toNat / 4294967296 = lanes [p4 + p5 + (p6 + p7), p5 + p6 + p7, p6 + p7, p7] := by rw [a5]; simp only [lanes]; omega
  have a6 : (x5 + x5 >>> 32).toNat = x5.toNat + x5.toNat / 4294967296 := by
    rw [BitVec.toNat_add, BitVec.toNat_ushiftRight, Nat.shiftRight_eq_div_pow]
    have e : x5.toNat / 2 ^ 32 = x5.toNat / 4294967296 := rfl
    rw [e, d5, a5]
    refine Nat.mod_eq_of_lt ?_
    simp only [lanes]; omega
  rw [BitVec.toNat_and, e127, Nat.and_two_pow_sub_one_eq_mod, a6, d5, a5]
  simp only [lanes]
  omega
theorem pop_eq (s : BitVec 64) : pop s = ((lst s).length : Int) := by
  have hds := digs_lt s.toNat
  have hb : ∀ d ∈ digs s.toNat, g1 d < 256 ∧ g2 (g1 d) < 256 ∧ g2 (g1 d) / 16 ≤ 4 ∧ g2 (g1 d) % 16 ≤ 4 ∧ g2 (g1 d) / 16 + g2 (g1 d) % 16 = pc8 d := fun d hd => byte_ok ⟨d, hds d hd⟩
  have s1 : ((s >>> 1 &&& 6148914691236517205#64) + (s &&& 6148914691236517205#64)).toNat = lanes ((digs s.toNat).map g1) :=
    stage (t := 1) (c := 85) (by omega) (by decide) (ds := digs s.toNat) rfl hds (x := s) (m := 6148914691236517205#64) (lanes_digs s.isLt).symm (by simp only [digs, List.map_cons, List.map_nil]; decide) (fun d hd => (hb d hd).1)
  generalize hx1 : (s >>> 1 &&& 6148914691236517205#64) + (s &&& 6148914691236517205#64) = x1 at s1
  have s2 : ((x1 >>> 2 &&& 3689348814741910323#64) + (x1 &&& 3689348814741910323#64)).toNat = lanes (((digs s.toNat).map g1).map g2) :=
    stage (t := 2) (c := 51) (by omega) (by decide) (ds := (digs s.toNat).map g1) rfl (by intro d hd; obtain ⟨a, ha, rfl⟩ := List.mem_map.1 hd; exact (hb a ha).1) (m := 3689348814741910323#64) s1 (by simp only [digs, List.map_cons, List.map_nil]; decide)
      (by intro d hd; obtain ⟨a, ha, rfl⟩ := List.mem_map.1 hd; exact (hb a ha).2.1)
  generalize hx2 : (x1 >>> 2 &&& 3689348814741910323#64) + (x1 &&& 3689348814741910323#64) = x2 at s2
  rw [lst_length, countP_split]
  obtain ⟨d0, d1, d2, d3, d4, d5, d6, d7, hdig⟩ : ∃ d0 d1 d2 d3 d4 d5 d6 d7, digs s.toNat = [d0, d1, d2, d3, d4, d5, d6, d7] := ⟨_, _, _, _, _, _, _, _, rfl⟩
  rw [hdig] at s2 hb ⊢
  have t0 := (hb d0 (by simp)).2.2; have t1 := (hb d1 (by simp)).2.2; have t2 := (hb d2 (by simp)).2.2; have t3 := (hb d3 (by simp)).2.2
  have t4 := (hb d4 (by simp)).2.2; have t5 := (hb d5 (by simp)).2.2; have t6 := (hb d6 (by simp)).2.2; have t7 := (hb d7 (by simp)).2.2
  clear hb
  have s3 := pop_tail (x2 := x2) (a0 := g2 (g1 d0) / 16) (a1 := g2 (g1 d1) / 16) (a2 := g2 (g1 d2) / 16) (a3 := g2 (g1 d3) / 16) (a4 := g2 (g1 d4) / 16) (a5 := g2 (g1 d5) / 16) (a6 := g2 (g1 d6) / 16) (a7 := g2 (g1 d7) / 16)
    (b0 := g2 (g1 d0) % 16) (b1 := g2 (g1 d1) % 16) (b2 := g2 (g1 d2) % 16) (b3 := g2 (g1 d3) % 16) (b4 := g2 (g1 d4) % 16) (b5 := g2 (g1 d5) % 16) (b6 := g2 (g1 d6) % 16) (b7 := g2 (g1 d7) % 16)
    (by rw [s2]; simp only [Nat.div_add_mod, List.map_cons, List.map_nil]) ⟨t0.1, t0.2.1⟩ ⟨t1.1, t1.2.1⟩ ⟨t2.1, t2.2.1⟩ ⟨t3.1, t3.2.1⟩ ⟨t4.1, t4.2.1⟩ ⟨t5.1, t5.2.1⟩ ⟨t6.1, t6.2.1⟩ ⟨t7.1, t7.2.1⟩
  generalize hx3 : x2 >>> 4 + x2 &&& 1085102592571150095#64 = x3 at s3
  have s4 := pop_end s3 (by omega) (by omega) (by omega) (by omega) (by omega) (by omega) (by omega) (by omega)
  have hp : pop s = (((x3 + x3 >>> 8) + (x3 + x3 >>> 8) >>> 16) + ((x3 + x3 >>> 8) + (x3 + x3 >>> 8) >>> 16) >>> 32 &&& 127#64).toInt := by
    rw [← hx3, ← hx2, ← hx1]; rfl
  rw [hp, BitVec.toInt_eq_toNat_of_lt (by rw [s4]; omega), s4]
  simp only [List.map_cons, List.map_nil, List.sum_cons, List.sum_nil]
  omega

/-! ### The number that k others are less than -/
def nthv (s : BitVec 64) (k : Int) : Int × Bool := if 0 ≤ k ∧ k < (lst s).length then ((lst s).getD k.toNat 0, true) else (0, false)
/-- What is left of a count that goes down by one, n times, and wraps. -/
def kAt (k : Int) (n : Nat) : Int := if k - n < -9223372036854775808 then k - n + 18446744073709551616 else k - n
theorem kAt_zero {k : Int} (h : -9223372036854775808 ≤ k) : kAt k 0 = k := by unfold kAt; rw [if_neg (by omega)]; omega
theorem nth_found {s : BitVec 64} {k i : Int} {l r : List Int} (hb : -9223372036854775808 ≤ k ∧ k ≤ 9223372036854775807) (he : lst s = l ++ i :: r) (h : kAt k l.length = 0) : nthv s k = (i, true) := by
  have hlen := lst_len s
  have hl : (lst s).length = l.length + (r.length + 1) := by rw [he]; simp
  have hk : k = l.length := by unfold kAt at h; split at h <;> omega
  rw [nthv, if_pos ⟨by omega, by omega⟩, he, hk, Int.toNat_natCast, List.getD_eq_getElem?_getD]
  simp
theorem nth_none {s : BitVec 64} {k : Int} (hb : -9223372036854775808 ≤ k ∧ k ≤ 9223372036854775807) (h : (lst s).length = 0 ∨ 0 ≤ kAt k (lst s).length) : nthv s k = (0, false) := by
  have hlen := lst_len s
  refine if_neg fun ⟨h0, h1⟩ => ?_
  rcases h with h | h
  · omega
  · unfold kAt at h; rw [if_neg (by omega)] at h; omega
theorem nth_neg {s : BitVec 64} {k : Int} (h : k < 0) : nthv s k = (0, false) := if_neg fun ⟨h0, _⟩ => by omega
theorem kAt_neg {k : Int} {n : Nat} (hb : -9223372036854775808 ≤ k ∧ k ≤ 9223372036854775807) (hn : n ≤ 64) (h : n = 0 ∨ 0 ≤ kAt k n) (h0 : kAt k n ≠ 0) (h1 : ¬ 0 ≤ kAt k (n + 1)) : k < 0 := by
  unfold kAt at *; omega
theorem tz_ne {s : BitVec 64} (h : s ≠ 0#64) : tztab.getD (((s &&& -s) * 285870213051353865#64) >>> 58).toNat 0 = tz s := by rw [tz, if_neg h]
theorem ext_getD {a b : List Int} (hl : a.length = b.length) (hf : ∀ j : Int, 0 ≤ j → j < a.length → a.getD j.toNat 0 = b.getD j.toNat 0) : a = b := by
  refine List.ext_getElem hl fun i h1 h2 => ?_
  have := hf i (by omega) (by omega)
  simpa [List.getD_eq_getElem?_getD, h1, h2] using this
theorem subB_no {a b : BitVec 64} {k : Int} (h0 : 0 ≤ k) (hk : k < (lst a).length) (h : (!hasB b ((lst a).getD k.toNat 0)) = true) : subB a b = false := by
  rw [subB_lst, List.all_eq_false]
  have hk' : k.toNat < (lst a).length := by omega
  refine ⟨(lst a)[k.toNat], List.getElem_mem _, ?_⟩
  simpa [List.getD_eq_getElem?_getD, hk'] using h
theorem subB_yes {a b : BitVec 64} (hf : ∀ j : Int, 0 ≤ j → j < (lst a).length → hasB b ((lst a).getD j.toNat 0) = true) : subB a b = true := by
  rw [subB_lst, List.all_eq_true]
  intro x hx
  obtain ⟨i, hi, rfl⟩ := List.getElem_of_mem hx
  have := hf i (by omega) (by omega)
  simpa [List.getD_eq_getElem?_getD, hi] using this
/-- The least number of a set. -/
def leastv (s : BitVec 64) : Int × Bool := if s = 0#64 then (0, false) else (tz s, true)
/-! ### What a set gains and loses, and what it counts -/
theorem has_less (s : BitVec 64) (i : Int) : hasB (lessB s i) i = false := by
  rw [hasB, getLsbD_lessB]
  by_cases h : inB i = true
  · have h2 := h
    simp only [inB, decide_eq_true_eq] at h2
    have : ((i.toNat : Nat) : Int) = i := by omega
    simp [this]
  · rw [Bool.not_eq_true] at h; rw [h]; rfl
theorem sub_less (s : BitVec 64) (i : Int) : subB (lessB s i) s = true := (subB_iff _ _).2 fun j hj h => by
  rw [getLsbD_lessB, Bool.and_eq_true] at h; exact h.1
theorem with_less (s : BitVec 64) (i : Int) : withB (lessB s i) i = withB s i := eq_of_bits fun j hj => by
  rw [getLsbD_withB, getLsbD_withB, getLsbD_lessB]
  by_cases h : (j : Int) = i <;> simp [h, hj]
theorem with_list (s : BitVec 64) (i : Int) : withB s i = ofl (lst s ++ [i]) := by rw [← withB_ofl, ofl_lst]
theorem sub_or (a b : BitVec 64) : subB a (a ||| b) = true := (subB_iff _ _).2 fun j hj h => by rw [BitVec.getLsbD_or, h]; rfl
theorem and_sub (a b : BitVec 64) : subB (a &&& b) a = true := (subB_iff _ _).2 fun j hj h => by
  rw [BitVec.getLsbD_and, Bool.and_eq_true] at h; exact h.1
theorem sub_has {a b : BitVec 64} {i : Int} (h : subB a b = true) (ha : hasB a i = true) : (!hasB b i) = false := by
  rw [hasB, Bool.and_eq_true] at ha
  have hi := ha.1
  simp only [inB, decide_eq_true_eq] at hi
  rw [hasB, ha.1, (subB_iff a b).1 h i.toNat (by omega) ha.2]; rfl
theorem pop_bd (s : BitVec 64) : 0 ≤ pop s ∧ pop s ≤ 64 := by have := lst_len s; rw [pop_eq]; omega
theorem countP_or_and (p q : Nat → Bool) : ∀ l : List Nat, l.countP (fun i => p i || q i) + l.countP (fun i => p i && q i) = l.countP p + l.countP q
  | [] => rfl
  | x :: l => by
    have ih := countP_or_and p q l
    simp only [List.countP_cons]
    cases p x <;> cases q x <;> simp <;> omega
theorem pop_or_and (a b : BitVec 64) : pop a + pop b = pop (a ||| b) + pop (a &&& b) := by
  rw [pop_eq, pop_eq, pop_eq, pop_eq, lst_length, lst_length, lst_length, lst_length]
  have := countP_or_and a.toNat.testBit b.toNat.testBit (List.range 64)
  have e1 : (List.range 64).countP (a ||| b).toNat.testBit = (List.range 64).countP (fun i => a.toNat.testBit i || b.toNat.testBit i) := List.countP_congr fun i _ => by
    rw [BitVec.toNat_or, Nat.testBit_or]
  have e2 : (List.range 64).countP (a &&& b).toNat.testBit = (List.range 64).countP (fun i => a.toNat.testBit i && b.toNat.testBit i) := List.countP_congr fun i _ => by
    rw [BitVec.toNat_and, Nat.testBit_and]
  rw [e1, e2]; omega
theorem pop_one (j : Nat) (h : j < 64) : pop (1#64 <<< j) = 1 := by
  have key : ∀ k : Fin 64, pop (1#64 <<< k.val) = 1 := by decide +kernel
  exact key ⟨j, h⟩
theorem pop_with {s : BitVec 64} {i : Int} (h : withB s i ≠ s) : pop (withB s i) = pop s + 1 := by
  by_cases hi : inB i = true
  · have h2 := hi
    simp only [inB, decide_eq_true_eq] at h2
    have hb : s.getLsbD i.toNat = false := by
      cases hc : s.getLsbD i.toNat with
      | false => rfl
      | true =>
        refine absurd (eq_of_bits fun j hj => ?_) h
        rw [getLsbD_withB]
        by_cases e : (j : Int) = i
        · have : j = i.toNat := by omega
          subst this; rw [hc]; rfl
        · simp [e]
    have he : withB s i = s ||| (1#64 <<< (BitVec.ofInt 64 i).toNat) := by rw [withB, if_pos hi]
    have hz : s &&& (1#64 <<< (BitVec.ofInt 64 i).toNat) = 0#64 := eq_of_bits fun j hj => by
      rw [BitVec.getLsbD_and, getLsbD_one_shl, ofInt_toNat (by omega)]
      by_cases e : j = i.toNat
      · subst e; rw [hb]; simp
      · simp [e]
    have := pop_or_and s (1#64 <<< (BitVec.ofInt 64 i).toNat)
    rw [hz, pop_one _ (by rw [ofInt_toNat (by omega)]; omega), show pop 0#64 = 0 by decide +kernel] at this
    rw [he]; omega
  · exact absurd (by rw [withB, if_neg hi]) h
theorem pop_with0 {s : BitVec 64} {i : Int} (h : ¬ withB s i ≠ s) : pop (withB s i) = pop s + 0 := by
  rw [Decidable.of_not_not h]; omega
theorem add_bd {x y : Int} (hx : 0 ≤ x ∧ x ≤ 64) (hy : 0 ≤ y ∧ y ≤ 64) : -9223372036854775808 ≤ x + y ∧ x + y ≤ 9223372036854775807 := by omega
theorem least_flag (s : BitVec 64) : (leastv s).2 = decide (((lst s).length : Int) > 0) := by
  unfold leastv
  by_cases h : s = 0#64
  · rw [if_pos h]; subst h; decide +kernel
  · rw [if_neg h]
    have : lst s ≠ [] := fun e => h (lst_eq_nil.1 e)
    have : 0 < (lst s).length := List.length_pos_iff.2 this
    exact (decide_eq_true (by omega)).symm
theorem least_len {s : BitVec 64} (h : (leastv s).2 = true) : 0 < (lst s).length := by
  rw [least_flag] at h; simpa using h
theorem least_val {s : BitVec 64} (h : (leastv s).2 = true) : (leastv s).1 = (lst s).getD (0 : Int).toNat 0 := by
  unfold leastv at *
  by_cases h0 : s = 0#64
  · rw [if_pos h0] at h; cases h
  · rw [if_neg h0, lst_tz h0]; rfl
theorem least_no {s : BitVec 64} (h : (leastv s).2 = false) : (leastv s).1 = 0 := by
  unfold leastv at *
  by_cases h0 : s = 0#64
  · rw [if_pos h0]
  · rw [if_neg h0] at h; cases h
theorem nth_flag (s : BitVec 64) (k : Int) : (nthv s k).2 = decide (0 ≤ k ∧ k < (lst s).length) := by
  unfold nthv
  by_cases h : 0 ≤ k ∧ k < (lst s).length
  · rw [if_pos h, decide_eq_true h]
  · rw [if_neg h, decide_eq_false h]
theorem nth_yes {s : BitVec 64} {k : Int} (h0 : 0 ≤ k) (h : k < (lst s).length) : (nthv s k).1 = (lst s).getD k.toNat 0 := by rw [nthv, if_pos ⟨h0, h⟩]
theorem nth_no {s : BitVec 64} {k : Int} (h : ¬ (0 ≤ k ∧ k < (lst s).length)) : (nthv s k).1 = 0 := by rw [nthv, if_neg h]
theorem pre_take {s l r : List Int} {n : Int} (he : s = l ++ r) (hn : (l.length : Int) = n) : l = s.take n.toNat := by
  rw [he, ← hn, Int.toNat_natCast, List.take_left]
theorem all_take {l : List Int} {n : Int} (h : (l.length : Int) ≤ n) : l = l.take n.toNat := by
  rw [List.take_of_length_le (by omega)]
end Go.Proofs.YtieckcbckgalhaaGreatDoor.M
