/- Numbers as sets: what Go's operators on int come to at small naturals. No program is named here. -/
import Derived.Test.YtmilpahggceemaaKdMore
import Derived.Laws.BitsLemmas
namespace Go.KD
open Go.RowKit
theorem wraps_i64 (n : Int) (h₀ : 0 ≤ n) (h₁ : n < 2 ^ 40) : IntKind.i64.wrap n = n := by rw [IntKind.wrap_i64]; omega
theorem i64_and (a b : Nat) (ha : a < 1099511627776) (hb : b < 1099511627776) : bits .and .i64 (a : Int) (b : Int) = ((a &&& b : Nat) : Int) := (bits_nat .i64 40 (by decide) wraps_i64 a b ha hb).1
theorem i64_or (a b : Nat) (ha : a < 1099511627776) (hb : b < 1099511627776) : bits .or .i64 (a : Int) (b : Int) = ((a ||| b : Nat) : Int) := (bits_nat .i64 40 (by decide) wraps_i64 a b ha hb).2
theorem bits_xor_nat (k : IntKind) (j : Nat) (hj : j ≤ k.bits) (hk : ∀ n : Int, 0 ≤ n → n < 2 ^ j → k.wrap n = n) (a b : Nat) (ha : a < 2 ^ j) (hb : b < 2 ^ j) : bits .xor k a b = ((a ^^^ b : Nat) : Int) := by
  have hp : 2 ^ j ≤ 2 ^ k.bits := Nat.pow_le_pow_right (by decide) hj
  have ha' : a % 2 ^ k.bits = a := Nat.mod_eq_of_lt (Nat.lt_of_lt_of_le ha hp)
  have hb' : b % 2 ^ k.bits = b := Nat.mod_eq_of_lt (Nat.lt_of_lt_of_le hb hp)
  simp only [bits, BitVec.ofInt_natCast, BitVec.toNat_xor, BitVec.toNat_ofNat, ha', hb']
  exact hk _ (Int.natCast_nonneg _) (by exact_mod_cast Nat.xor_lt_two_pow ha hb)
theorem i64_xor (a b : Nat) (ha : a < 1099511627776) (hb : b < 1099511627776) : bits .xor .i64 (a : Int) (b : Int) = ((a ^^^ b : Nat) : Int) := bits_xor_nat .i64 40 (by decide) wraps_i64 a b ha hb
/-- a without the bits of b. -/
def andn (a b : Nat) : Nat := a ^^^ (a &&& b)
theorem andn_bit (a b i : Nat) : (andn a b).testBit i = (a.testBit i && !b.testBit i) := by
  unfold andn; rw [Nat.testBit_xor, Nat.testBit_and]; cases a.testBit i <;> cases b.testBit i <;> rfl
theorem andn_lt {a b n : Nat} (h : a < 2 ^ n) : andn a b < 2 ^ n := Nat.xor_lt_two_pow h (Nat.lt_of_le_of_lt Nat.and_le_left h)
theorem andn_mask (m a b : Nat) (ha : a < 2 ^ m) : a &&& (2 ^ m - 1 - b % 2 ^ m) = andn a b := by
  apply Nat.eq_of_testBit_eq
  intro i
  rw [andn_bit, Nat.testBit_and]
  have hlt : b % 2 ^ m < 2 ^ m := Nat.mod_lt _ (Nat.two_pow_pos m)
  by_cases hi : i < m
  · rw [show 2 ^ m - 1 - b % 2 ^ m = 2 ^ m - (b % 2 ^ m + 1) from by omega, Nat.testBit_two_pow_sub_succ hlt]
    simp [hi, Nat.testBit_mod_two_pow]
  · have : a.testBit i = false := Nat.testBit_lt_two_pow (Nat.lt_of_lt_of_le ha (Nat.pow_le_pow_right (by decide) (by omega)))
    simp [this]
theorem bits_andNot_nat (k : IntKind) (j : Nat) (hj : j ≤ k.bits) (hk : ∀ n : Int, 0 ≤ n → n < 2 ^ j → k.wrap n = n) (a b : Nat) (ha : a < 2 ^ j) : bits .andNot k a b = ((andn a b : Nat) : Int) := by
  have hp : 2 ^ j ≤ 2 ^ k.bits := Nat.pow_le_pow_right (by decide) hj
  have ha' : a % 2 ^ k.bits = a := Nat.mod_eq_of_lt (Nat.lt_of_lt_of_le ha hp)
  simp only [bits, BitVec.ofInt_natCast, BitVec.toNat_and, BitVec.toNat_not, BitVec.toNat_ofNat, ha']
  rw [andn_mask _ _ _ (Nat.lt_of_lt_of_le ha hp)]
  exact hk _ (Int.natCast_nonneg _) (by exact_mod_cast andn_lt ha)
theorem i64_andNot (a b : Nat) (ha : a < 1099511627776) : bits .andNot .i64 (a : Int) (b : Int) = ((andn a b : Nat) : Int) := bits_andNot_nat .i64 40 (by decide) wraps_i64 a b ha
/-- The numbers of a set, ascending. -/
def memN (x : Nat) : List Nat := (List.range 40).filter fun i => x.testBit i
def mem (x : Nat) : List Int := (memN x).map fun (i : Nat) => (i : Int)
def memK (x k : Nat) : List Int := ((List.range k).filter fun i => x.testBit i).map fun (i : Nat) => (i : Int)
theorem mem_eq (x : Nat) : mem x = memK x 40 := rfl
/-- A set shifted right, as a walk spells it. -/
theorem shr_at (x k : Nat) : ∃ y : Nat, Hid (y = x >>> k) ∧ (x : Int) / 2 ^ k = (y : Int) := by
  refine ⟨x >>> k, rfl, ?_⟩
  rw [Nat.shiftRight_eq_div_pow]
  simp
theorem and1 {y : Nat} (hy : y < 1099511627776) : bits .and .i64 (y : Int) 1 = ((y % 2 : Nat) : Int) := by
  have := i64_and y 1 hy (by omega)
  rw [Nat.and_one_is_mod] at this
  exact this
theorem bit_shr (x k : Nat) : (x >>> k) % 2 = if x.testBit k then 1 else 0 := by
  rw [Nat.testBit_eq_decide_div_mod_eq, Nat.shiftRight_eq_div_pow]
  by_cases h : x / 2 ^ k % 2 = 1
  · simp [h]
  · simp [h]; omega
theorem memK_yes {x k : Nat} (h : x.testBit k = true) : memK x (k + 1) = memK x k ++ [(k : Int)] := by simp [memK, List.range_succ, List.filter_append, h]
theorem memK_no {x k : Nat} (h : x.testBit k = false) : memK x (k + 1) = memK x k := by simp [memK, List.range_succ, List.filter_append, h]
theorem memK_len (x k : Nat) : (memK x k).length ≤ k := by
  unfold memK
  rw [List.length_map]
  exact Nat.le_trans (List.length_filter_le _ _) (by simp)
theorem memK_end {x k : Nat} (h : x >>> k = 0) : ∀ j, memK x (k + j) = memK x k
  | 0 => rfl
  | j + 1 => by
    rw [← Nat.add_assoc, memK_no, memK_end h j]
    rw [Nat.shiftRight_eq_div_pow] at h
    have hlt : x < 2 ^ k := by
      rcases Nat.lt_or_ge x (2 ^ k) with h' | h'
      · exact h'
      · have := Nat.div_pos h' (Nat.two_pow_pos k); omega
    exact Nat.testBit_lt_two_pow (Nat.lt_of_lt_of_le hlt (Nat.pow_le_pow_right (by decide) (by omega)))
theorem ints_snoc (l : List Int) (x : Int) : ints (l ++ [x]) = ints l ++ [.int .i64 x] := by simp [ints]
end Go.KD
