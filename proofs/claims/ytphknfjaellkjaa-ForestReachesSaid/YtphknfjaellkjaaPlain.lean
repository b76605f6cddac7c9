/-
  Plain facts on sets of numbers as words, and on chains: no program in sight.
-/
namespace Go.Proofs.Ytphknfjaellkjaa.M
set_option linter.unusedVariables false
def chainB (n : Int) : Bool := decide (1 ≤ n ∧ n ≤ 64)
def below (n : Int) : BitVec 64 := if n ≤ 0 then 0#64 else if 64 ≤ n then ~~~0#64 else (1#64 <<< (BitVec.ofInt 64 n).toNat) - 1#64
def wordv (n k : Int) : BitVec 64 × Bool := if 1 ≤ n ∧ n ≤ 64 ∧ 0 ≤ k ∧ k < n then (below k, true) else (0#64, false)
def level (n : Int) (s : BitVec 64) : Int × Bool :=
  if 1 ≤ n ∧ n ≤ 64 then
    match (List.range n.toNat).find? (fun k : Nat => s == below (k : Int)) with
    | some k => ((k : Int), true)
    | none => (0, false)
  else (0, false)
/-! ### Bits -/
theorem ofInt_toNat {n : Int} (h : 0 ≤ n ∧ n < 18446744073709551616) : (BitVec.ofInt 64 n).toNat = n.toNat := by
  rw [BitVec.toNat_ofInt]; omega
theorem getLsbD_below (n : Int) (i : Nat) : (below n).getLsbD i = decide (i < 64 ∧ (i : Int) < n) := by
  unfold below
  by_cases h : n ≤ 0
  · rw [if_pos h]; simp; omega
  · rw [if_neg h]
    by_cases h' : 64 ≤ n
    · rw [if_pos h', BitVec.getLsbD_not, BitVec.getLsbD_zero, Bool.not_false, Bool.and_true, decide_eq_decide]; omega
    · rw [if_neg h', ofInt_toNat (by omega)]
      have e : (1#64 <<< n.toNat) - 1#64 = BitVec.ofNat 64 (2 ^ n.toNat - 1) := by
        apply BitVec.eq_of_toNat_eq
        have h1 : 2 ^ n.toNat < 2 ^ 64 := Nat.pow_lt_pow_right (by omega) (by omega)
        have h2 : 0 < 2 ^ n.toNat := Nat.two_pow_pos _
        have h3 : (1#64 <<< n.toNat).toNat = 2 ^ n.toNat := by
          simp [BitVec.toNat_shiftLeft, Nat.shiftLeft_eq]; exact h1
        rw [BitVec.toNat_sub, h3, BitVec.toNat_ofNat, BitVec.toNat_ofNat]
        generalize 2 ^ n.toNat = X at h1 h2
        omega
      rw [e, BitVec.getLsbD_ofNat, Nat.testBit_two_pow_sub_one]
      by_cases a : i < 64 <;> by_cases b : i < n.toNat <;> simp [a, b] <;> omega
def bitsTo (p : Nat → Bool) : Nat → BitVec 64
  | 0 => 0#64
  | i + 1 => if p i then bitsTo p i ||| (1#64 <<< i) else bitsTo p i
theorem getLsbD_one_shl (i k : Nat) : (1#64 <<< i).getLsbD k = (decide (k < 64) && decide (k = i)) := by
  rw [BitVec.getLsbD_shiftLeft]
  simp
  by_cases h1 : k < 64 <;> by_cases h2 : k = i <;> simp [h1, h2] <;> omega
def ofl (l : List Int) : BitVec 64 := bitsTo (fun i => l.contains (i : Int)) 64
def inB (i : Int) : Bool := decide (0 ≤ i ∧ i < 64)
def hasB (s : BitVec 64) (i : Int) : Bool := inB i && s.getLsbD i.toNat
def withB (s : BitVec 64) (i : Int) : BitVec 64 := if inB i then s ||| (1#64 <<< (BitVec.ofInt 64 i).toNat) else s
def lessB (s : BitVec 64) (i : Int) : BitVec 64 := if inB i then s &&& ~~~(1#64 <<< (BitVec.ofInt 64 i).toNat) else s
def lstTo (s : BitVec 64) (j : Nat) : List Int := ((List.range j).filter (s.getLsbD ·)).map fun (i : Nat) => (i : Int)
def lst (s : BitVec 64) : List Int := lstTo s 64
def subB (a b : BitVec 64) : Bool := decide (a &&& ~~~b = 0#64)
theorem getLsbD_withB (s : BitVec 64) (i : Int) (k : Nat) : (withB s i).getLsbD k = (s.getLsbD k || (decide (k < 64) && decide ((k : Int) = i))) := by
  unfold withB inB
  by_cases h : 0 ≤ i ∧ i < 64
  · rw [if_pos (by simpa using h), BitVec.getLsbD_or, getLsbD_one_shl, ofInt_toNat (by omega)]
    by_cases h1 : k < 64 <;> by_cases h2 : (k : Int) = i
    · have h3 : k = i.toNat := by omega
      rw [decide_eq_true h3, decide_eq_true h2]
    · have h3 : ¬ k = i.toNat := by omega
      rw [decide_eq_false h3, decide_eq_false h2]
    · omega
    · rw [decide_eq_false h1]; rfl
  · rw [if_neg (by simpa using h)]
    by_cases h1 : k < 64 <;> by_cases h2 : (k : Int) = i <;> simp [h1, h2] <;> omega
theorem rem_bit (s : BitVec 64) (k : Nat) : (s >>> k) % 2#64 = 1#64 ↔ s.getLsbD k = true := by
  have : (s >>> k) % 2#64 = 1#64 ↔ (s >>> k).toNat % 2 = 1 := by
    rw [← BitVec.toNat_inj]; simp
  rw [this]
  have h2 : (s >>> k).getLsbD 0 = s.getLsbD k := by simp
  rw [← h2, BitVec.getLsbD, Nat.testBit_zero, decide_eq_true_eq]
def oflTo (l : List Int) (j : Nat) : BitVec 64 := bitsTo (fun i => l.contains (i : Int)) j
def upto (j : Int) : List Int := (List.range j.toNat).map fun (i : Nat) => (i : Int)
/-! ### Chains -/
def topv (n : Int) : BitVec 64 := if 1 ≤ n ∧ n ≤ 64 then below (n - 1) else 0#64
def pop (s : BitVec 64) : Int :=
  let x := (s >>> 1 &&& 6148914691236517205#64) + (s &&& 6148914691236517205#64)
  let x := (x >>> 2 &&& 3689348814741910323#64) + (x &&& 3689348814741910323#64)
  let x := (x >>> 4 + x) &&& 1085102592571150095#64
  let x := x + x >>> 8
  let x := x + x >>> 16
  let x := x + x >>> 32
  (x &&& 127#64).toInt
/-! ### The least number of a set -/
def Low (s : BitVec 64) (j : Nat) : Prop := j < 64 ∧ s.getLsbD j = true ∧ ∀ i, i < j → s.getLsbD i = false
def tztab : List Int := [0, 1, 56, 2, 57, 49, 28, 3, 61, 58, 42, 50, 38, 29, 17, 4, 62, 47, 59, 36, 45, 43, 51, 22, 53, 39, 33, 30, 24, 18, 12, 5, 63, 55, 48, 27, 60, 41, 37, 16, 46, 35, 44, 21, 52, 32, 23, 11, 54, 26, 40, 15, 34, 20, 31, 10, 25, 14, 19, 9, 13, 8, 7, 6]
def tz (s : BitVec 64) : Int := if s = 0#64 then 64 else tztab.getD (((s &&& -s) * 285870213051353865#64) >>> 58).toNat 0
theorem tz_idx (x : BitVec 64) : 0 ≤ ((x >>> 58).toNat : Int) ∧ ((x >>> 58).toNat : Int) < (64 : Nat) := by
  have : (x >>> 58).toNat < 64 := by
    rw [BitVec.toNat_ushiftRight, Nat.shiftRight_eq_div_pow]
    have := x.isLt
    omega
  omega
/-! ### How many numbers a set has -/
def lanes : List Nat → Nat
  | [] => 0
  | d :: r => 2 ^ 8 * lanes r + d
def digs (x : Nat) : List Nat := [x % 256, x / 256 % 256, x / 65536 % 256, x / 16777216 % 256, x / 4294967296 % 256, x / 1099511627776 % 256, x / 281474976710656 % 256, x / 72057594037927936 % 256]
def g1 (d : Nat) : Nat := ((d >>> 1) &&& 85) + (d &&& 85)
def g2 (d : Nat) : Nat := ((d >>> 2) &&& 51) + (d &&& 51)
def pc8 (d : Nat) : Nat := (List.range 8).countP d.testBit
/-! ### The number that k others are less than -/
def nthv (s : BitVec 64) (k : Int) : Int × Bool := if 0 ≤ k ∧ k < (lst s).length then ((lst s).getD k.toNat 0, true) else (0, false)
def kAt (k : Int) (n : Nat) : Int := if k - n < -9223372036854775808 then k - n + 18446744073709551616 else k - n
theorem ext_getD {a b : List Int} (hl : a.length = b.length) (hf : ∀ j : Int, 0 ≤ j → j < a.length → a.getD j.toNat 0 = b.getD j.toNat 0) : a = b := by
  refine List.ext_getElem hl fun i h1 h2 => ?_
  have := hf i (by omega) (by omega)
  simpa [List.getD_eq_getElem?_getD, h1, h2] using this
def leastv (s : BitVec 64) : Int × Bool := if s = 0#64 then (0, false) else (tz s, true)
/-! ### What a set gains and loses, and what it counts -/
end Go.Proofs.Ytphknfjaellkjaa.M
