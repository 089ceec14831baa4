/- Contracts of counting bits. Numbers as sets: what Go's operators on int come to at small naturals. No program is named here. Contracts of the lists of a set. Contracts of small functions on lists of numbers: is a number in it, where, a copy. The cursor of the draws: plain words, and next, pick, one, among. Sorted lists and sets of small numbers. No program is named here. Draws of sets of colours: few, colours, sets. Mazes and works that a draw makes: plain words. Contracts of the functions on works and mazes: validity. -/
import Derived.Test.YtmilpahggceemaaKpFp0
import Derived.Laws.BitsLemmas
import Derived.Lib.SliceRun
import Derived.Lib.VarintBits
import Derived.Deep.RegionHeld3
import Derived.Deep.DeepCutAuto
import Derived.IntWalk
import Derived.Laws.AppendOwn
import Derived.Deep.OwnRows
import Derived.Maps.AppendAt
import Derived.Deep.WholeRow
import Derived.Deep.AppendLies
set_option linter.unusedVariables false
set_option linter.unusedSimpArgs false
namespace Go.Proofs.Ytmilpahggceemaa
open Go.RowKit Go.KD
attribute [local go_sem] later_cell later_frozen
theorem onesCount64_c (x : Nat) (hx : x < 64) (w : World) : Calls Try.prog 306 #[.int .u64 x] w fun e w' => e = .returned (.int .i64 (popc x)) ∧ w = w' := by
  go_enter Try.func306, Try.ntmps306
  go_wp2
  go_ret
  refine ⟨ret_int ?_, rfl⟩
  clear w
  revert x
  decide +kernel
theorem onesCount_c (x : Nat) (hx : x < 64) (w : World) : Calls Try.prog 270 #[.int .u64 x] w fun e w' => e = .returned (.int .i64 (popc x)) ∧ w = w' := by
  go_enter Try.func270, Try.ntmps270
  go_wp2_with (go_at_call 306; refine (onesCount64_c x hx _).mono ?_; rintro e w1 ⟨rfl, rfl⟩)
  go_ret
  exact ⟨rfl, rfl⟩
theorem odd_c (x : Nat) (hx : x < 64) (w : World) : Calls Try.prog 151 #[.int .i64 x] w fun e w' => e = .returned (.int .i64 (popc x % 2)) ∧ w = w' := by
  have h0 : (0 : Int) ≤ popc x := by unfold popc; omega
  have h1 : popc x ≤ 12 := popc_le x
  go_enter Try.func151, Try.ntmps151
  go_wp2_with (go_at_call 270; refine (onesCount_c x hx _).mono ?_; rintro e w1 ⟨rfl, rfl⟩)
  go_ret
  exact ⟨rfl, rfl⟩
theorem l2Many_c (x : Nat) (hx : x < 64) (w : World) : Calls Try.prog 263 #[.int .i64 x] w fun e w' => e = .returned (.int .i64 (popc x)) ∧ w = w' := by
  go_enter Try.func263, Try.ntmps263
  go_wp2
  go_loop [0, 3] (fun s c => ∃ n : Nat, n < 64 ∧ s = .int .i64 n ∧ ∃ k : Nat, k ≤ 6 ∧ c = .int .i64 k ∧ Hid (popN x = k + popN n)) (fun s _ => (intOf s).toNat)
  case atStart => exact ⟨x, hx, rfl, 0, by omega, rfl, by show _ = _; omega⟩
  case round =>
    obtain ⟨n, hn, rfl, k, hk, rfl, HK⟩ := hrel
    by_cases h0 : 0 < n
    · have e1 : bits BinOp.and IntKind.i64 (n : Int) 1 = ((n % 2 : Nat) : Int) := and_one n hn
      have hm : n % 2 < 2 := Nat.mod_lt _ (by omega)
      have hp := pop_half n hn
      have HP := Lib.hid hp
      have hb := pop_le6 x hx
      clear hp
      go_wp2
      go_round
      case rel => exact ⟨n / 2, by omega, by first | go_num | (congr 1; omega), k + n % 2, by have := HK.out; have := HP.out; omega, by first | go_num | (congr 1; omega), by have := HK.out; have := HP.out; show _ = _; omega⟩
      case measure => simp [intOf]; omega
    · obtain rfl : n = 0 := by omega
      go_wp2
      go_ret
      exact ⟨ret_int (by have := HK.out; rw [popN_zero] at this; unfold popc; omega), rfl⟩
theorem l8Odd_c (a b x : Nat) (hx : x < 64) (hab : bits BinOp.and IntKind.i64 (a : Int) (b : Int) = (x : Int)) (w : World) : Calls Try.prog 156 #[.int .i64 a, .int .i64 b] w fun e w' => e = .returned (.int .i64 (popc x % 2)) ∧ w = w' := by
  have H : Hid (bits BinOp.and IntKind.i64 (popc x) 1 = popc x % 2) := by
    have := and_one (popN x) (by have := popN_le x; omega)
    show _ = _
    unfold popc; rw [this]; omega
  go_enter Try.func156, Try.ntmps156
  go_wp2_with (go_at_call 263; refine (l2Many_c x hx _).mono ?_; rintro e w1 ⟨rfl, rfl⟩)
  go_ret
  exact ⟨ret_int H.out, rfl⟩
end Go.Proofs.Ytmilpahggceemaa

namespace Go.KD
open Go.RowKit
theorem wraps_i64 (n : Int) (h₀ : 0 ≤ n) (h₁ : n < 2 ^ 40) : IntKind.i64.wrap n = n := by rw [IntKind.wrap_i64]; omega
theorem i64_and (a b : Nat) (ha : a < 1099511627776) (hb : b < 1099511627776) : bits .and .i64 (a : Int) (b : Int) = ((a &&& b : Nat) : Int) := (bits_nat .i64 40 (by decide) wraps_i64 a b ha hb).1
theorem i64_or (a b : Nat) (ha : a < 1099511627776) (hb : b < 1099511627776) : bits .or .i64 (a : Int) (b : Int) = ((a ||| b : Nat) : Int) := (bits_nat .i64 40 (by decide) wraps_i64 a b ha hb).2
theorem bits_xor_nat (k : IntKind) (j : Nat) (hj : j ≤ k.bits) (hk : ∀ n : Int, 0 ≤ n → n < 2 ^ j → k.wrap n = n) (a b : Nat) (ha : a < 2 ^ j) (hb : b < 2 ^ j) : bits .xor k a b = ((a ^^^ b : Nat) : Int) := by
  have hp : 2 ^ j ≤ 2 ^ k.bits := Nat.pow_le_pow_right (by decide) hj
  have ha' : a % 2 ^ k.bits = a := Nat.mod_eq_of_lt (Nat.lt_of_lt_of_le ha hp)
  have hb' : b % 2 ^ k.bits = b := Nat.mod_eq_of_lt (Nat.lt_of_lt_of_le hb hp)
  simp only [bits, BitVec.ofInt_natCast, BitVec.toNat_xor, BitVec.toNat_ofNat, ha', hb']
  exact hk _ (Int.natCast_nonneg _) (by exact_mod_cast Nat.xor_lt_two_pow ha hb)
theorem i64_xor (a b : Nat) (ha : a < 1099511627776) (hb : b < 1099511627776) : bits .xor .i64 (a : Int) (b : Int) = ((a ^^^ b : Nat) : Int) := bits_xor_nat .i64 40 (by decide) wraps_i64 a b ha hb
/-- a without the bits of b. -/
def andn (a b : Nat) : Nat := a ^^^ (a &&& b)
theorem andn_bit (a b i : Nat) : (andn a b).testBit i = (a.testBit i && !b.testBit i) := by
  unfold andn; rw [Nat.testBit_xor, Nat.testBit_and]; cases a.testBit i <;> cases b.testBit i <;> rfl
theorem andn_lt {a b n : Nat} (h : a < 2 ^ n) : andn a b < 2 ^ n := Nat.xor_lt_two_pow h (Nat.lt_of_le_of_lt Nat.and_le_left h)
theorem andn_mask (m a b : Nat) (ha : a < 2 ^ m) : a &&& (2 ^ m - 1 - b % 2 ^ m) = andn a b := by
  apply Nat.eq_of_testBit_eq
  intro i
  rw [andn_bit, Nat.testBit_and]
  have hlt : b % 2 ^ m < 2 ^ m := Nat.mod_lt _ (Nat.two_pow_pos m)
  by_cases hi : i < m
  · rw [show 2 ^ m - 1 - b % 2 ^ m = 2 ^ m - (b % 2 ^ m + 1) from by omega, Nat.testBit_two_pow_sub_succ hlt]
    simp [hi, Nat.testBit_mod_two_pow]
  · have : a.testBit i = false := Nat.testBit_lt_two_pow (Nat.lt_of_lt_of_le ha (Nat.pow_le_pow_right (by decide) (by omega)))
    simp [this]
theorem bits_andNot_nat (k : IntKind) (j : Nat) (hj : j ≤ k.bits) (hk : ∀ n : Int, 0 ≤ n → n < 2 ^ j → k.wrap n = n) (a b : Nat) (ha : a < 2 ^ j) : bits .andNot k a b = ((andn a b : Nat) : Int) := by
  have hp : 2 ^ j ≤ 2 ^ k.bits := Nat.pow_le_pow_right (by decide) hj
  have ha' : a % 2 ^ k.bits = a := Nat.mod_eq_of_lt (Nat.lt_of_lt_of_le ha hp)
  simp only [bits, BitVec.ofInt_natCast, BitVec.toNat_and, BitVec.toNat_not, BitVec.toNat_ofNat, ha']
  rw [andn_mask _ _ _ (Nat.lt_of_lt_of_le ha hp)]
  exact hk _ (Int.natCast_nonneg _) (by exact_mod_cast andn_lt ha)
theorem i64_andNot (a b : Nat) (ha : a < 1099511627776) : bits .andNot .i64 (a : Int) (b : Int) = ((andn a b : Nat) : Int) := bits_andNot_nat .i64 40 (by decide) wraps_i64 a b ha
/-- The numbers of a set, ascending. -/
def memN (x : Nat) : List Nat := (List.range 40).filter fun i => x.testBit i
def mem (x : Nat) : List Int := (memN x).map fun (i : Nat) => (i : Int)
def memK (x k : Nat) : List Int := ((List.range k).filter fun i => x.testBit i).map fun (i : Nat) => (i : Int)
theorem mem_eq (x : Nat) : mem x = memK x 40 := rfl
/-- A set shifted right, as a walk spells it. -/
theorem shr_at (x k : Nat) : ∃ y : Nat, Hid (y = x >>> k) ∧ (x : Int) / 2 ^ k = (y : Int) := by
  refine ⟨x >>> k, rfl, ?_⟩
  rw [Nat.shiftRight_eq_div_pow]
  simp
theorem and1 {y : Nat} (hy : y < 1099511627776) : bits .and .i64 (y : Int) 1 = ((y % 2 : Nat) : Int) := by
  have := i64_and y 1 hy (by omega)
  rw [Nat.and_one_is_mod] at this
  exact this
theorem bit_shr (x k : Nat) : (x >>> k) % 2 = if x.testBit k then 1 else 0 := by
  rw [Nat.testBit_eq_decide_div_mod_eq, Nat.shiftRight_eq_div_pow]
  by_cases h : x / 2 ^ k % 2 = 1
  · simp [h]
  · simp [h]; omega
theorem memK_yes {x k : Nat} (h : x.testBit k = true) : memK x (k + 1) = memK x k ++ [(k : Int)] := by simp [memK, List.range_succ, List.filter_append, h]
theorem memK_no {x k : Nat} (h : x.testBit k = false) : memK x (k + 1) = memK x k := by simp [memK, List.range_succ, List.filter_append, h]
theorem memK_len (x k : Nat) : (memK x k).length ≤ k := by
  unfold memK
  rw [List.length_map]
  exact Nat.le_trans (List.length_filter_le _ _) (by simp)
theorem memK_end {x k : Nat} (h : x >>> k = 0) : ∀ j, memK x (k + j) = memK x k
  | 0 => rfl
  | j + 1 => by
    rw [← Nat.add_assoc, memK_no, memK_end h j]
    rw [Nat.shiftRight_eq_div_pow] at h
    have hlt : x < 2 ^ k := by
      rcases Nat.lt_or_ge x (2 ^ k) with h' | h'
      · exact h'
      · have := Nat.div_pos h' (Nat.two_pow_pos k); omega
    exact Nat.testBit_lt_two_pow (Nat.lt_of_lt_of_le hlt (Nat.pow_le_pow_right (by decide) (by omega)))
theorem ints_snoc (l : List Int) (x : Int) : ints (l ++ [x]) = ints l ++ [.int .i64 x] := by simp [ints]
end Go.KD

namespace Go.Proofs.Ytmilpahggceemaa
open Go.RowKit Go.KD
attribute [local go_sem] later_cell later_frozen
set_option maxRecDepth 100000 in
set_option maxHeartbeats 1000000 in
theorem members_c (x : Nat) (hx : x < 1073741824) (w : World) : Calls Try.prog 192 #[.int .i64 x] w fun e w' =>
    ∃ v, e = .returned v ∧ w'.ownsRow w.heap.size 3 1 v (mem x).length (ints (mem x)) ∧ Below w.heap.size w w' := by
  have HX := Lib.hid hx; clear hx
  obtain ⟨i0, hi, hz0, hz1, hz2⟩ := info_parts infoI
  go_enter Try.func192, Try.ntmps192
  go_wp2
  go_loopw [3, 4] (fun v c wr => ∃ k : Nat, k ≤ 40 ∧ c = .int .i64 k ∧ Below w.heap.size w wr ∧ Hid (wr.ownsRow w.heap.size 3 1 v (memK x k).length (ints (memK x k)))) (fun _ c _ => 40 - (intOf c).toNat)
  case atStart => exact ⟨0, by omega, rfl, (Below.refl _ _).alloc (Nat.le_refl _) _, World.ownsRow_lit _ _ _ (Nat.le_refl _) (by unfold maxLen; omega) (by rfl)⟩
  case round =>
    obtain ⟨k, hk, rfl, hb, HO⟩ := hrel
    obtain ⟨y, HY, ey⟩ := shr_at x k
    have hy : y < 1099511627776 := by
      have := HY.out; have := HX.out; rw [Nat.shiftRight_eq_div_pow] at *; have := Nat.div_le_self x (2 ^ k); omega
    have HA := Lib.hid (and1 hy)
    have HB := bit_shr x k
    rw [← HY.out] at HB
    have HBB := Lib.hid HB
    clear hy HB
    have hk0 : (0 : Int) ≤ (k : Int) := by omega
    have hk1 : (k : Int) ≤ 63 := by omega
    rcases Nat.eq_zero_or_pos y with h0 | h0
    · have h0' : ¬ ((0 : Int) < (y : Int)) := by omega
      have H0 := Lib.hid h0; clear h0
      go_wp2
      go_ret
      refine ⟨_, rfl, ?_, hb⟩
      have := HO.out
      rw [mem_eq]
      rwa [show (40 : Nat) = k + (40 - k) from by omega, memK_end (by rw [← HY.out]; exact H0.out)]
    · have hlt : k < 30 := by
        rcases Nat.lt_or_ge k 30 with h | h
        · exact h
        · have := HY.out; have hx := HX.out
          rw [Nat.shiftRight_eq_div_pow, Nat.div_eq_of_lt (Nat.lt_of_lt_of_le hx (Nat.le_trans (by decide : 1073741824 ≤ 2 ^ 30) (Nat.pow_le_pow_right (by decide) h)))] at this
          omega
      cases hbit : x.testBit k
      · have ea : bits .and .i64 (y : Int) 1 = 0 := by rw [HA.out, HBB.out, hbit]; rfl
        have HBI := Lib.hid hbit; clear hbit
        go_wp2
        go_roundw
        case rel => exact ⟨k + 1, by omega, by go_num, hb, by rw [memK_no HBI.out]; exact HO⟩
        case measure => simp [intOf]; omega
      · have ea : bits .and .i64 (y : Int) 1 = 1 := by rw [HA.out, HBB.out, hbit]; rfl
        have HBI := Lib.hid hbit; clear hbit
        have hz := hb.size
        go_wp2_with (at_builtin; refine wpList_append_own _ rfl _ _ 24 rfl w.heap.size 3 i0 (.int .i64 0) 1 8 Try.underlying24 hi hz0 hz1 hz2 rfl (by decide) _ _ _ rfl (HO.out.alloc _) ⟨wr.heap.size, 0, none⟩ 1 1 [.int .i64 k] rfl rfl ?_ ?_ ?_ ?_ ?_ ?_; (exact cell_one_new _ _ _); (simp [Value.oneCell']); (have := memK_len x k; unfold maxLen; omega); (have := memK_len x k; omega); (simp; omega); intro v' w1 hown' hgrow _)
        go_roundw
        case rel => exact ⟨k + 1, by omega, by go_num, (hb.alloc hz _).grown hgrow (by simp; omega) (fun g hg => own_block_lo HO.out hg), by rw [memK_yes HBI.out, ints_snoc, List.length_append]; exact hown'⟩
        case measure => simp [intOf]; omega
end Go.Proofs.Ytmilpahggceemaa

namespace Go.KD
def eqP (x : Int) : Int → Bool := fun y => decide (y = x)
def hasI (l : List Int) (x : Int) : Bool := anyP (eqP x) l
theorem hasI_iff {l : List Int} {x : Int} : hasI l x = true ↔ x ∈ l := by simp [hasI, anyP, eqP]
theorem hasI_at {l : List Int} {x : Int} {k : Nat} (hk : k < l.length) (h : l[k]! = x) : hasI l x = true := by
  rw [hasI_iff, ← h, getElem!_pos l k hk]; exact List.getElem_mem hk
theorem hasI_none {l : List Int} {x : Int} (h : ∀ j, j < l.length → l[j]! ≠ x) : hasI l x = false := by
  rw [Bool.eq_false_iff, ne_eq, hasI_iff]
  intro hm
  obtain ⟨j, hj, rfl⟩ := List.mem_iff_getElem.1 hm
  exact h j hj (getElem!_pos l j hj)
end Go.KD
namespace Go.Proofs.Ytmilpahggceemaa
open Go.RowKit Go.KD
attribute [local go_sem] later_cell later_frozen
theorem l1Has_c (a : Option Addr) (cap n : Nat) (l : List Int) (x : Int) (w : World) (hn : n = l.length) (hA : IC w a l) (hl : n ≤ 1048576) : Calls Try.prog 183 #[.slice a n cap, .int .i64 x] w fun e w' => e = .returned (.bool (hasI l x)) ∧ w = w' := by
  have HN := Lib.hid hn; clear hn
  go_enter Try.func183, Try.ntmps183
  go_wp2
  go_loop [5] (fun i => ∃ k : Nat, k ≤ n ∧ i = .int .i64 k ∧ Hid (∀ j, j < k → l[j]! ≠ x)) (fun i => n - (intOf i).toNat)
  case atStart => exact ⟨0, Nat.zero_le _, rfl, fun j hj => by omega⟩
  case round =>
    obtain ⟨k, hk, rfl, HK⟩ := hrel
    by_cases hlt : k < n
    · have hlt' : k < l.length := by rw [← HN.out]; exact hlt
      obtain ⟨b, off, y, rfl, HX, hbs, e0⟩ := hA.at k hlt'
      by_cases h : y = x
      · have g : (y == x) = true := by simpa using h
        have H := Lib.hid h; clear h
        go_wp2
        go_ret
        exact ⟨ret_bool (by rw [hasI_at hlt' (HX.out.trans H.out)]), rfl⟩
      · have g : (y == x) = false := by simpa using h
        go_wp2
        go_round
        case rel => exact ⟨k+1, by omega, by go_num, fun j hj => by
          rcases Nat.lt_or_ge j k with h' | h'
          · exact HK.out j h'
          · obtain rfl : j = k := by omega
            rw [HX.out]; exact h⟩
        case measure => simp [intOf]; omega
    · go_wp2
      go_ret
      exact ⟨ret_bool (by rw [hasI_none (fun j hj => HK.out j (by have := HN.out; omega))]), rfl⟩
theorem index_c (a : Option Addr) (cap n : Nat) (l : List Int) (x : Int) (w : World) (hn : n = l.length) (hA : IC w a l) (hl : n ≤ 1048576) : Calls Try.prog 280 #[.slice a n cap, .int .i64 x] w fun e w' => e = .returned (.int .i64 (idxP (eqP x) l)) ∧ w = w' := by
  have HN := Lib.hid hn; clear hn
  go_enter Try.func280, Try.ntmps280
  go_wp2
  go_loop [5, 8] (fun _ i => ∃ k : Nat, k ≤ n ∧ i = .int .i64 k ∧ Hid (∀ j, j < k → eqP x l[j]! = false)) (fun _ i => n - (intOf i).toNat)
  case atStart => exact ⟨0, Nat.zero_le _, rfl, fun j hj => by omega⟩
  case round =>
    obtain ⟨k, hk, rfl, HK⟩ := hrel
    by_cases hlt : k < n
    · have hlt' : k < l.length := by rw [← HN.out]; exact hlt
      obtain ⟨b, off, y, rfl, HX, hbs, e0⟩ := hA.at k hlt'
      by_cases h : y = x
      · have g : (x == y) = true := by simp [h]
        have H := Lib.hid h; clear h
        go_wp2
        go_ret
        exact ⟨ret_int (by rw [idxP_at hlt' HK.out (by rw [HX.out, H.out]; simp [eqP])]), rfl⟩
      · have g : (x == y) = false := by simp; exact fun e => h e.symm
        go_wp2
        go_round
        case rel => exact ⟨k+1, by omega, by go_num, fun j hj => by
          rcases Nat.lt_or_ge j k with h' | h'
          · exact HK.out j h'
          · obtain rfl : j = k := by omega
            rw [HX.out]; simpa [eqP] using h⟩
        case measure => simp [intOf]; omega
    · go_wp2
      go_ret
      exact ⟨ret_int (by rw [idxP_none (fun j hj => HK.out j (by have := HN.out; omega))]), rfl⟩
theorem contains_c (a : Option Addr) (cap n : Nat) (l : List Int) (x : Int) (w : World) (hn : n = l.length) (hA : IC w a l) (hl : n ≤ 1048576) : Calls Try.prog 182 #[.slice a n cap, .int .i64 x] w fun e w' => e = .returned (.bool (hasI l x)) ∧ w = w' := by
  have HN := Lib.hid hn; clear hn
  go_enter Try.func182, Try.ntmps182
  go_wp2_with (go_at_call 280; refine (index_c _ _ _ l _ _ HN.out hA hl).mono ?_; rintro e w1 ⟨rfl, rfl⟩)
  go_ret
  exact ⟨ret_bool (anyP_idx _ _).symm, rfl⟩
set_option maxHeartbeats 1000000 in
theorem clone_c (a : Option Addr) (cap n : Nat) (l : List Int) (w : World) (hn : n = l.length) (hA : IC w a l) (hl : n ≤ 1048576) : Calls Try.prog 150 #[.slice a n cap] w fun e w' =>
    ∃ v, e = .returned v ∧ w'.ownsRow w.heap.size 3 1 v n (ints l) ∧ Below w.heap.size w w' := by
  obtain ⟨i0, hi, hz0, hz1, hz2⟩ := info_parts infoI
  have HN := Lib.hid hn; clear hn
  have he := fun (w : World) => Lib.run_eql_slice_nil (P := Try.prog) w 24 3 a n cap 0 0 Try.underlying24
  cases a with
  | none =>
    have h0 : l = [] := by
      cases l with
      | nil => rfl
      | cons x l => obtain ⟨b, off, h, _⟩ := hA 0 (by simp); cases h
    have H0 := Lib.hid h0; clear h0
    go_enter Try.func150, Try.ntmps150
    go_wp2
    go_ret
    refine ⟨_, rfl, ⟨?_, .inl ⟨rfl, ?_⟩⟩, Below.refl _ _⟩
    · rw [H0.out, HN.out, H0.out]; rfl
    · rw [HN.out, H0.out]; rfl
  | some ad =>
    have hnews : Hid (∀ j u, (ints l)[j]? = some u → w.cell? (ad.add j) = some u) := by
      intro j u hu
      have hj : j < l.length := by
        rcases Nat.lt_or_ge j l.length with h | h
        · exact h
        · rw [List.getElem?_eq_none (by simpa using h)] at hu; cases hu
      obtain ⟨b, off, hb, hbs, hc⟩ := hA j hj
      cases hb
      rw [add_at rfl, hc, ← hu, ints, List.getElem?_map, List.getElem?_eq_getElem hj, getElem!_pos l j hj]
      rfl
    have hlt : Hid (∀ j u, (ints l)[j]? = some u → ad.block < w.heap.size) := fun j u hu => World.block_lt_of_cell? w (ad.add j) (hnews.out j u hu) |> fun h => by unfold Addr.add at h; split at h <;> exact h
    go_enter Try.func150, Try.ntmps150
    go_wp2_with (at_builtin; refine wpList_append_own _ rfl _ _ 24 rfl w.heap.size 3 i0 (.int .i64 0) 1 8 Try.underlying24 hi hz0 hz1 hz2 rfl (by decide) _ _ _ rfl (World.ownsRow_lit w #[] 0 (Nat.le_refl _) (by unfold maxLen; omega) rfl) ad n cap (ints l) rfl ?_ ?_ ?_ ?_ ?_ ?_ ?_; (rw [length_ints, HN.out]; omega); (intro j u hu; rw [World.cell?_alloc_lt _ _ _ (by have := hlt.out j u hu; unfold Addr.add; split <;> exact this)]; exact hnews.out j u hu); (intro u hu; simp only [ints, List.mem_map] at hu; obtain ⟨x, _, rfl⟩ := hu; rfl); (unfold maxLen; omega); omega; (simp); intro v' w1 hown' hgrow _)
    go_ret
    refine ⟨_, rfl, by simpa using hown', ((Below.refl _ _).alloc (Nat.le_refl _) _).grown hgrow (by simp) (fun g hg => by cases hg; exact Nat.le_refl _)⟩
end Go.Proofs.Ytmilpahggceemaa

namespace Go.KD
open Go.RowKit Go.ChangeShapes Go.WideShapes Go.ChangeAt Go.Joins Go.Deep
/-- Bytes that read. -/
def BC (w : World) (a : Option Addr) (n : Nat) : Prop :=
  ∀ k, k < n → ∃ b off, ∃ x : Nat, a = some ⟨b, off, none⟩ ∧ b < w.heap.size ∧ x < 256 ∧ w.cell? ⟨b, off + k, none⟩ = some (.int .u8 x)
theorem BC.later {w w' : World} {a : Option Addr} {n : Nat} (h : BC w a n) (hb : Below w.heap.size w w') : BC w' a n := by
  intro k hk
  obtain ⟨b, off, x, ha, hbs, hx, c0⟩ := h k hk
  obtain ⟨hc, hf⟩ := bcell hb
  exact ⟨b, off, x, ha, by have := hb.size; omega, hx, (hc _ _ hbs).trans c0⟩
theorem open_bc {H : Type} {enc : TypeId × Value → H} {P : Program} {w : World} {base : Nat} {held : Bool} {t e : TypeId} {fuel : Nat} {v : Value} {x : DataW H × List MemPlace} (ht : P.underlying t = some (.slice e)) (he : P.underlying e = some (.int .u8)) (hc : P.cellsOf e = 1)
    (h : DataW.trod enc P w base (fun _ => true) held fuel t [v] = some x) :
    ∃ a cap, ∃ n : Nat, v = .slice a n cap ∧ n ≤ maxLen ∧ BC w a n := by
  rcases open_ints ht he hc h with ⟨hcs, _⟩ | ⟨a, len, cap, zs, hcs, _, hl, hm, hz, _, hcell, hwf⟩
  · simp only [List.cons.injEq, and_true] at hcs
    exact ⟨none, 0, 0, hcs, by unfold maxLen; simp, fun k hk => absurd hk (Nat.not_lt_zero k)⟩
  · simp only [List.cons.injEq, and_true] at hcs
    simp only [if_true] at hz
    refine ⟨some a, cap, len, hcs, by omega, fun k hk => ?_⟩
    have hk' : k < zs.length := by omega
    have c := hcell k hk'
    have hsp : (a.add k).spot = none := World.cell?_spot c
    have hbl := World.block_lt_of_cell? w _ c
    have ha0 := World.cell?_spot (hcell 0 (by omega))
    have ha : a.spot = none := by unfold Addr.add at ha0; rw [if_pos rfl] at ha0; exact ha0
    obtain ⟨b, off, sp⟩ := a
    simp only at ha; subst ha
    rw [add_at (a := ⟨b, off, none⟩) rfl] at c hbl
    have hw := hwf (zs[k]) (List.getElem_mem hk')
    have hw1 : IntKind.u8.min ≤ zs[k] ∧ zs[k] ≤ IntKind.u8.max := by simpa [Lit.wf] using hw
    have hw2 : 0 ≤ zs[k] ∧ zs[k] ≤ 255 := ⟨Int.le_trans (by decide) hw1.1, Int.le_trans hw1.2 (by decide)⟩
    refine ⟨b, off, zs[k].toNat, rfl, hbl, by omega, ?_⟩
    rw [c, List.getD_eq_getElem?_getD, List.getElem?_eq_getElem hk', Option.getD_some, Int.toNat_of_nonneg hw2.1]
/-- A cursor in block c, before place n. -/
structure Cu (c n : Nat) (w : World) : Prop where
  ex : ∃ a, ∃ ln cp p : Nat, ∃ s : Int, w.cell? ⟨c, 0, none⟩ = some (.slice a ln cp) ∧ w.cell? ⟨c, 1, none⟩ = some (.int .i64 p) ∧ w.cell? ⟨c, 2, none⟩ = some (.int .u64 s) ∧ p ≤ n ∧ ln ≤ 65536 ∧
    ∀ k, k < ln → ∃ b off, ∃ x : Nat, a = some ⟨b, off, none⟩ ∧ b < c ∧ x < 256 ∧ w.cell? ⟨b, off + k, none⟩ = some (.int .u8 x)
  fz : ∀ o, o < 3 → w.frozen? ⟨c, o, none⟩ = false
  lt : c < w.heap.size
theorem Cu.mono {c n n' : Nat} {w : World} (h : Cu c n w) (hn : n ≤ n') : Cu c n' w := by
  obtain ⟨⟨a, ln, cp, p, s, h0, h1, h2, h3, h4⟩, hf, hl⟩ := h
  exact ⟨⟨a, ln, cp, p, s, h0, h1, h2, by omega, h4⟩, hf, hl⟩
theorem Cu.same {c n : Nat} {w w' : World} (h : Cu c n w) (hs : w.heap.size ≤ w'.heap.size) (hb : ∀ k, k ≤ c → w'.heap[k]? = w.heap[k]?) : Cu c n w' := by
  obtain ⟨⟨a, ln, cp, p, s, h0, h1, h2, h3, h4, h5⟩, hf, hl⟩ := h
  have hc : ∀ b o, b ≤ c → w'.cell? ⟨b, o, none⟩ = w.cell? ⟨b, o, none⟩ := fun b o hbc => World.cell?_of_block (hb b hbc)
  refine ⟨⟨a, ln, cp, p, s, (hc _ _ (Nat.le_refl _)).trans h0, (hc _ _ (Nat.le_refl _)).trans h1, (hc _ _ (Nat.le_refl _)).trans h2, h3, h4, fun k hk => ?_⟩, fun o ho => ?_, by omega⟩
  · obtain ⟨b, off, x, e1, e2, e3, e4⟩ := h5 k hk
    exact ⟨b, off, x, e1, e2, e3, (hc _ _ (by omega)).trans e4⟩
  · have := hf o ho
    unfold World.frozen? at *
    simp only at *
    rw [hb c (Nat.le_refl _)]; exact this
theorem Cu.later {c n B : Nat} {w w' : World} (h : Cu c n w) (hb : Below B w w') (hc : c < B) : Cu c n w' := h.same hb.size (fun k hk => hb.block k (by omega))
theorem Cu.chg {c n lo hi : Nat} {w w' : World} (h : Cu c n w) (hb : Chg lo hi w w') (hc : c < lo) : Cu c n w' := h.same hb.size (fun k hk => hb.block k (by have := h.lt; omega) (.inl (by omega)))
theorem Chg.refl (lo hi : Nat) (w : World) : Chg lo hi w w := ⟨rfl, rfl, rfl, Nat.le_refl _, fun _ _ _ => rfl⟩
theorem Chg.then_below {lo hi B : Nat} {w w1 w2 : World} (h : Chg lo hi w w1) (k : Below B w1 w2) (hB : w1.heap.size ≤ B) : Chg lo hi w w2 := h.trans (Chg.of_below (k.mono hB))
theorem Chg.alloc {lo hi : Nat} {w w1 : World} (h : Chg lo hi w w1) (o : Obj) : Chg lo hi w (w1.alloc o) := h.then_below ((Below.refl _ _).alloc (Nat.le_refl _) o) (Nat.le_refl _)
theorem Chg.drew {lo hi : Nat} {w w1 : World} (h : Chg lo hi w w1) : Chg lo hi w w1.drew := h.then_below (Below.refl _ _).drew (Nat.le_refl _)
theorem Chg.drewN {lo hi : Nat} {w w1 : World} (h : Chg lo hi w w1) (n : Nat) : Chg lo hi w (w1.drewN n) := h.then_below (below_drewN (Below.refl _ _) n) (Nat.le_refl _)
theorem Chg.setCell {lo hi : Nat} {w w1 : World} (h : Chg lo hi w w1) {a : Addr} (h1 : lo ≤ a.block) (h2 : a.block < hi) (u : Value) : Chg lo hi w (w1.setCell a u) := h.trans (Chg.of_grown (grown_setCell w1 a u) (fun g hg => by cases hg; exact ⟨h1, h2⟩))
theorem Chg.mono {lo hi lo' hi' : Nat} {w w' : World} (h : Chg lo hi w w') (h1 : lo' ≤ lo) (h2 : hi ≤ hi') : Chg lo' hi' w w' := ⟨h.os, h.tape, h.output, h.size, fun k hk hd => h.block k hk (by omega)⟩
theorem Chg.new {lo hi lo' hi' : Nat} {w w' w2 : World} (h : Chg lo hi w w') (h1 : w.heap.size ≤ lo) : Below w.heap.size w w' := h.below h1 (Nat.le_refl _)
/-- A new cursor. -/
theorem Cu.new {w w' : World} {c n : Nat} {a : Option Addr} {ln cp p : Nat} {s : Int} (hc : Cu c n w) (hch : Chg c (c + 1) w w') (h0 : w'.cell? ⟨c, 0, none⟩ = some (.slice a ln cp)) (h1 : w'.cell? ⟨c, 1, none⟩ = some (.int .i64 p)) (h2 : w'.cell? ⟨c, 2, none⟩ = some (.int .u64 s))
    (h3 : p ≤ n + 1) (h4 : ln ≤ 65536) (h5 : ∀ k, k < ln → ∃ b off, ∃ x : Nat, a = some ⟨b, off, none⟩ ∧ b < c ∧ x < 256 ∧ w.cell? ⟨b, off + k, none⟩ = some (.int .u8 x)) (hf : ∀ o, o < 3 → w'.frozen? ⟨c, o, none⟩ = false) : Cu c (n + 1) w' := by
  refine ⟨⟨a, ln, cp, p, s, h0, h1, h2, h3, h4, fun k hk => ?_⟩, hf, Nat.lt_of_lt_of_le hc.lt hch.size⟩
  obtain ⟨b, off, x, e1, e2, e3, e4⟩ := h5 k hk
  exact ⟨b, off, x, e1, e2, e3, by rw [hch.cell (p := ⟨b, off + k, none⟩) (Nat.lt_trans e2 hc.lt) (.inl e2)]; exact e4⟩
/-- What a draw of a number gives. -/
def NatP (c n k : Nat) (w : World) (e : Ending) (w' : World) : Prop := ∃ r : Nat, e = .returned (.int .i64 r) ∧ r < k ∧ Chg c (c + 1) w w' ∧ Cu c n w'
def BoolP (c n : Nat) (w : World) (e : Ending) (w' : World) : Prop := ∃ b : Bool, e = .returned (.bool b) ∧ Chg c (c + 1) w w' ∧ Cu c n w'
def IntP (c n : Nat) (l : List Int) (w : World) (e : Ending) (w' : World) : Prop := ∃ x : Int, e = .returned (.int .i64 x) ∧ x ∈ l ∧ Chg c (c + 1) w w' ∧ Cu c n w'
theorem Cu.step {c n ln cp p k j : Nat} {a : Option Addr} {s : Int} {w : World} (hc : Cu c n w) (h0 : w.cell? ⟨c, 0, none⟩ = some (.slice a ln cp)) (f0 : w.cell? ⟨c, 1, none⟩ = some (.int .i64 p)) (f1 : ∃ u : Int, w.cell? ⟨c, 2, none⟩ = some (.int .u64 u)) (h3 : p ≤ n) (h4 : ln ≤ 65536)
    (h5 : ∀ k, k < ln → ∃ b off, ∃ x : Nat, a = some ⟨b, off, none⟩ ∧ b < c ∧ x < 256 ∧ w.cell? ⟨b, off + k, none⟩ = some (.int .u8 x)) :
    Chg c (c + 1) w ((((w.drewN k).setCell ⟨c, 1, none⟩ (.int .i64 ((p : Int) + 1))).setCell ⟨c, 2, none⟩ (.int .u64 s)).drewN j) ∧ Cu c (n + 1) ((((w.drewN k).setCell ⟨c, 1, none⟩ (.int .i64 ((p : Int) + 1))).setCell ⟨c, 2, none⟩ (.int .u64 s)).drewN j) := by
  obtain ⟨u, f1⟩ := f1
  have hf := hc.fz
  have hch : Chg c (c + 1) w ((((w.drewN k).setCell ⟨c, 1, none⟩ (.int .i64 ((p : Int) + 1))).setCell ⟨c, 2, none⟩ (.int .u64 s)).drewN j) := by
    repeat (first | exact Chg.refl _ _ _ | apply Chg.drewN | apply Chg.drew | (refine Chg.setCell ?_ (by simp) (by simp) _))
  refine ⟨hch, Cu.new (p := p + 1) (a := a) (ln := ln) (cp := cp) (s := s) hc hch ?_ ?_ ?_ (by omega) h4 h5 fun o ho => ?_⟩
  · simp [go_sem, h0]
  · simp [go_sem, f0]
  · simp [go_sem, f1]
  · have := hf o ho
    simp [go_sem, this]
theorem low8 (t : Int) : ∃ r : Nat, r < 256 ∧ wrap64 (bits .and .u64 (IntKind.u64.wrap t / 1099511627776) 255) = (r : Int) := by
  have h0 := IntKind.wrap_u64 t
  have h1 : 0 ≤ IntKind.u64.wrap t / 1099511627776 ∧ IntKind.u64.wrap t / 1099511627776 < 18446744073709551616 := by rw [h0]; omega
  have h2 := bits_mask .u64 64 (by decide) Go.wraps_u64 8 (by decide) _ h1.1 h1.2
  have h2 : bits .and .u64 (IntKind.u64.wrap t / 1099511627776) 255 = (IntKind.u64.wrap t / 1099511627776) % 256 := h2
  refine ⟨((IntKind.u64.wrap t / 1099511627776) % 256).toNat, by omega, ?_⟩
  rw [h2]
  unfold wrap64
  omega
end Go.KD
namespace Go.Proofs.Ytmilpahggceemaa
open Go.RowKit Go.KD
attribute [local go_sem] later_cell later_frozen
set_option maxRecDepth 100000 in
set_option maxHeartbeats 4000000 in
theorem next_c (c n : Nat) (hn : n ≤ 1000000) (w : World) (h : Cu c n w) : Calls Try.prog 269 #[.pointer (some ⟨c, 0, none⟩)] w (NatP c (n + 1) 256 w) := by
  have HC := Lib.hid h
  obtain ⟨⟨a, ln, cp, p, s, h0, h1, h2, h3, h4, h5⟩, hf, hl⟩ := h
  have f1 := hf 1 (by omega)
  have f2 := hf 2 (by omega)
  have H5 := Lib.hid h5
  have HF := Lib.hid hf
  clear h5 hf
  by_cases hlt : p < ln
  · obtain ⟨b, off, x, rfl, hb, hx, e0⟩ := H5.out p hlt
    have hp0 : (0 : Int) ≤ (p : Int) := by omega
    have hpI : (p : Int) < (ln : Int) := by omega
    go_enter Try.func269, Try.ntmps269
    go_wp2
    go_quiet (fail)
    go_wp2
    go_quiet (fail)
    go_wp2
    go_quiet (fail)
    go_wp2
    go_ret
    exact ⟨x, rfl, hx, HC.out.step h0 h1 ⟨s, h2⟩ h3 h4 H5.out⟩
  · have hpI : ¬ ((p : Int) < (ln : Int)) := by omega
    go_enter Try.func269, Try.ntmps269
    go_wp2
    go_quiet (fail)
    go_wp2
    go_quiet (fail)
    go_wp2
    go_ret
    obtain ⟨r, hr, he⟩ := low8 (IntKind.u64.wrap (IntKind.u64.wrap (s * 6364136223846793005)) + 462197)
    exact ⟨r, ret_int he, hr, HC.out.step h0 h1 ⟨s, h2⟩ h3 h4 H5.out⟩
set_option maxHeartbeats 4000000 in
theorem pick_c (c n k : Nat) (hk0 : 0 < k) (hk : k ≤ 10000) (hn : n ≤ 900000) (w : World) (h : Cu c n w) : Calls Try.prog 144 #[.pointer (some ⟨c, 0, none⟩), .int .i64 k] w (NatP c (n + 2) k w) := by
  have HC := Lib.hid h
  clear h
  by_cases h1 : k ≤ 1
  · obtain rfl : k = 1 := by omega
    go_enter Try.func144, Try.ntmps144
    go_wp2
    go_ret
    exact ⟨0, rfl, by omega, Chg.refl _ _ _, HC.out.mono (by omega)⟩
  · have h1I : ¬ ((k : Int) ≤ 1) := by omega
    by_cases h2 : k ≤ 200
    · have h2I : ¬ ((200 : Int) < (k : Int)) := by omega
      go_enter Try.func144, Try.ntmps144
      go_wp2_with (go_at_call 269; refine (next_c c n (by omega) _ HC.out).mono ?_; rintro e w1 ⟨r, rfl, hr, hc1, hu1⟩)
      go_ret
      exact ⟨r % k, rfl, Nat.mod_lt _ hk0, hc1, hu1.mono (by omega)⟩
    · have h2I : (200 : Int) < (k : Int) := by omega
      go_enter Try.func144, Try.ntmps144
      go_wp2_with fail
      refine (next_c c n (by omega) _ HC.out).mono ?_
      rintro e w1 ⟨r, rfl, hr, hc1, hu1⟩
      go_wp2_with fail
      refine (next_c c (n + 1) (by omega) _ hu1).mono ?_
      rintro e w2 ⟨r2, rfl, hr2, hc2, hu2⟩
      go_wp2_with fail
      go_ret
      exact ⟨(r * 256 + r2) % k, ret_int (by simp), Nat.mod_lt _ hk0, hc1.trans hc2, hu2⟩
theorem one_c (c n k : Nat) (hk0 : 0 < k) (hk : k ≤ 10000) (hn : n ≤ 900000) (w : World) (h : Cu c n w) : Calls Try.prog 184 #[.pointer (some ⟨c, 0, none⟩), .int .i64 k] w (BoolP c (n + 2) w) := by
  have HC := Lib.hid h
  clear h
  go_enter Try.func184, Try.ntmps184
  go_wp2_with (go_at_call 144; refine (pick_c c n k hk0 hk hn _ HC.out).mono ?_; rintro e w1 ⟨r, rfl, hr, hc1, hu1⟩)
  go_ret
  exact ⟨_, rfl, hc1, hu1⟩
theorem among_c (c n k cap : Nat) (a : Option Addr) (l : List Int) (hk : k = l.length) (hk0 : 0 < k) (hk1 : k ≤ 10000) (hn : n ≤ 900000) (w : World) (h : Cu c n w) (hA : ∀ w', Chg c (c + 1) w w' → IC w' a l) : Calls Try.prog 261 #[.pointer (some ⟨c, 0, none⟩), .slice a k cap] w (IntP c (n + 2) l w) := by
  have HC := Lib.hid h
  have HK := Lib.hid hk
  have HA := Lib.hid hA
  clear h hA hk
  go_enter Try.func261, Try.ntmps261
  go_wp2_with fail
  refine (pick_c c n k hk0 hk1 hn _ HC.out).mono ?_
  rintro e w1 ⟨r, rfl, hr, hc1, hu1⟩
  have hr' : r < l.length := by rw [← HK.out]; exact hr
  obtain ⟨b, off, x, rfl, HX, hbs, e0⟩ := (HA.out w1 hc1).at r hr'
  have hrI : (r : Int) < (k : Int) := by omega
  go_wp2_with fail
  go_ret
  exact ⟨x, rfl, by rw [← HX.out, getElem!_pos l r hr']; exact List.getElem_mem hr', hc1, hu1⟩
end Go.Proofs.Ytmilpahggceemaa

namespace Go.KD
def setN (s : Nat) (a : Int) : Nat := s ||| 2 ^ a.toNat
theorem setN_lt {s : Nat} {a : Int} (hs : s < 4096) (ha : 0 ≤ a ∧ a < 12) : setN s a < 4096 := by
  unfold setN
  have h1 : 2 ^ a.toNat < 2 ^ 12 := Nat.pow_lt_pow_right (by omega) (by omega)
  exact Nat.or_lt_two_pow (n := 12) hs h1
end Go.KD
namespace Go.KD
open Go.RowKit Go.Lib
theorem shl_at (y : Nat) (hy : y < 12) : ∃ p : Nat, Hid (p = 2 ^ y) ∧ IntKind.i64.wrap (2 ^ y) = (p : Int) ∧ p < 4096 := by
  refine ⟨2 ^ y, rfl, ?_, Nat.pow_lt_pow_right (n := 12) (by omega) hy⟩
  have h : 2 ^ y < 2 ^ 12 := Nat.pow_lt_pow_right (by omega) hy
  have e : ((2 ^ y : Nat) : Int) = 2 ^ y := by simp
  rw [← e]
  generalize 2 ^ y = q at h
  exact IntWalk.i64_in _ (by omega)
end Go.KD
namespace Go.KD
open Go.RowKit
def putL : List Int → Int → List Int
  | [], n => [n]
  | x :: l, n => if x < n then x :: putL l n else if x = n then x :: l else n :: x :: l
theorem putL_eq : ∀ (l : List Int) (n : Int) (k : Nat), k ≤ l.length → (∀ j, j < k → l[j]! < n) → (k < l.length → ¬ l[k]! < n) → putL l n = if k < l.length ∧ l[k]! = n then l else l.take k ++ n :: l.drop k
  | [], n, k, hk, _, _ => by
    obtain rfl : k = 0 := by simpa using hk
    simp [putL]
  | x :: l, n, 0, _, _, h => by
    have h := h (by simp)
    simp only [List.getElem!_cons_zero] at h
    by_cases hx : x = n
    · simp [putL, hx]
    · simp [putL, h, hx]
  | x :: l, n, k + 1, hk, hj, h => by
    have h0 := hj 0 (by omega)
    simp only [List.getElem!_cons_zero] at h0
    have ih := putL_eq l n k (by simpa using hk) (fun j hjk => by have := hj (j + 1) (by omega); simpa using this) (fun hkl => by have := h (by simpa using hkl); simpa using this)
    simp only [putL, h0, if_true, ih, List.length_cons, Nat.add_lt_add_iff_right, List.getElem!_cons_succ, List.take_succ_cons, List.drop_succ_cons, List.cons_append]
    split <;> rfl
theorem mem_putL : ∀ (l : List Int) (n y : Int), y ∈ putL l n ↔ y ∈ l ∨ y = n
  | [], n, y => by simp [putL]
  | x :: l, n, y => by
    unfold putL
    split
    · simp [mem_putL l n y, or_assoc]
    · split
      · rename_i h; subst h; simp; intro h; exact .inl h
      · simp only [List.mem_cons]; constructor
        · rintro (h | h | h) <;> simp [h]
        · rintro ((h | h) | h) <;> simp [h]
theorem putL_sorted : ∀ (l : List Int) (n : Int), l.Pairwise (· < ·) → (putL l n).Pairwise (· < ·)
  | [], n, _ => by simp [putL]
  | x :: l, n, h => by
    rw [List.pairwise_cons] at h
    unfold putL
    split
    · rename_i hx
      rw [List.pairwise_cons]
      refine ⟨fun y hy => ?_, putL_sorted l n h.2⟩
      rcases (mem_putL l n y).1 hy with hy | rfl
      · exact h.1 y hy
      · exact hx
    · split
      · exact List.pairwise_cons.2 h
      · rename_i h1 h2
        rw [List.pairwise_cons]
        refine ⟨fun y hy => ?_, List.pairwise_cons.2 h⟩
        rcases List.mem_cons.1 hy with rfl | hy
        · omega
        · have := h.1 y hy; omega
theorem sorted_ext : ∀ (a b : List Int), a.Pairwise (· < ·) → b.Pairwise (· < ·) → (∀ x, x ∈ a ↔ x ∈ b) → a = b
  | [], [], _, _, _ => rfl
  | [], y :: b, _, _, h => absurd ((h y).2 (by simp)) (by simp)
  | x :: a, [], _, _, h => absurd ((h x).1 (by simp)) (by simp)
  | x :: a, y :: b, ha, hb, h => by
    rw [List.pairwise_cons] at ha hb
    have hxy : x = y := by
      rcases List.mem_cons.1 ((h x).1 (by simp)) with e | e
      · exact e
      · rcases List.mem_cons.1 ((h y).2 (by simp)) with e' | e'
        · exact e'.symm
        · have h1 := hb.1 x e; have h2 := ha.1 y e'; omega
    subst hxy
    congr 1
    refine sorted_ext a b ha.2 hb.2 fun z => ⟨fun hz => ?_, fun hz => ?_⟩
    · rcases List.mem_cons.1 ((h z).1 (by simp [hz])) with e | e
      · have := ha.1 z hz; omega
      · exact e
    · rcases List.mem_cons.1 ((h z).2 (by simp [hz])) with e | e
      · have := hb.1 z hz; omega
      · exact e
theorem in_mem (s : Nat) (y : Int) : y ∈ mem s ↔ ∃ i : Nat, i < 40 ∧ s.testBit i = true ∧ y = i := by
  simp only [mem, memN, List.mem_map, List.mem_filter, List.mem_range]
  constructor
  · rintro ⟨i, ⟨h1, h2⟩, rfl⟩; exact ⟨i, h1, h2, rfl⟩
  · rintro ⟨i, h1, h2, rfl⟩; exact ⟨i, ⟨h1, h2⟩, rfl⟩
theorem mem_sorted (s : Nat) : (mem s).Pairwise (· < ·) := by
  unfold mem memN
  rw [List.pairwise_map]
  refine (List.pairwise_lt_range.filter _).imp fun h => by omega
theorem put_mem (p : List Int) (hp : p = [] ∨ p = [-1]) (s n : Nat) (hn : n < 40) : putL (p ++ mem s) n = p ++ mem (s ||| 2 ^ n) := by
  have hs : ∀ t : Nat, (p ++ mem t).Pairwise (· < ·) := by
    intro t
    rcases hp with rfl | rfl
    · exact mem_sorted t
    · show ((-1 : Int) :: mem t).Pairwise _
      rw [List.pairwise_cons]
      refine ⟨fun y hy => ?_, mem_sorted t⟩
      obtain ⟨i, _, _, rfl⟩ := (in_mem t y).1 hy
      omega
  refine sorted_ext _ _ (putL_sorted _ _ (hs s)) (hs _) fun y => ?_
  rw [mem_putL, List.mem_append, List.mem_append, in_mem, in_mem]
  constructor
  · rintro ((h | ⟨i, h1, h2, rfl⟩) | rfl)
    · exact .inl h
    · exact .inr ⟨i, h1, by simp [h2], rfl⟩
    · exact .inr ⟨n, hn, by simp [Nat.testBit_two_pow], rfl⟩
  · rintro (h | ⟨i, h1, h2, rfl⟩)
    · exact .inl (.inl h)
    · rw [Nat.testBit_or, Bool.or_eq_true] at h2
      rcases h2 with h2 | h2
      · exact .inl (.inr ⟨i, h1, h2, rfl⟩)
      · rw [Nat.testBit_two_pow] at h2
        have : n = i := by simpa using h2
        subst this
        exact .inr rfl
end Go.KD

namespace Go.KD
open Go.RowKit
theorem ic_litC {w w' : World} {c n g : Nat} {e : TypeId} {cs : Array Value} {l : List Int} (hcs : cs.toList = ints l) (hn : n = l.length) (hm : n ≤ 100) (hc : c < w.heap.size) (h : Chg c (c + 1) (w.alloc (.cells cs e)) w') (hg : w.heap.size = g) : IC w' (some ⟨g, 0, none⟩) l := by
  subst hn
  subst hg
  have hl := World.ownsRow_lit (base := w.heap.size) (e := e) (size := 1) w cs l.length (Nat.le_refl _) (by unfold maxLen; omega) (by have := congrArg List.length hcs; simp at this; omega)
  rw [hcs] at hl
  have ho : Own w.heap.size (w.alloc (.cells cs e)).heap.size (w.alloc (.cells cs e)) e 1 _ l.length (ints l) := Own.of hl
  exact ic_of (ho.chg h (.inr (by omega)))
/-- Cursor and world behind some draws. -/
structure CuW (c n : Nat) (w w' : World) : Prop where
  ch : Chg c (c + 1) w w'
  cu : Cu c n w'
theorem CuW.mono {c n n' : Nat} {w w' : World} (h : CuW c n w w') (hn : n ≤ n') : CuW c n' w w' := ⟨h.ch, h.cu.mono hn⟩
theorem CuW.trans {c n n' : Nat} {w w1 w2 : World} (h : CuW c n w w1) (k : CuW c n' w1 w2) : CuW c n' w w2 := ⟨h.ch.trans k.ch, k.cu⟩
theorem CuW.refl {c n : Nat} {w : World} (h : Cu c n w) : CuW c n w w := ⟨Chg.refl _ _ _, h⟩
theorem CuW.below {c n B : Nat} {w w1 w2 : World} (h : CuW c n w w1) (k : Below B w1 w2) (hB : w1.heap.size ≤ B) : CuW c n w w2 := ⟨h.ch.then_below k hB, h.cu.later k (by have := h.cu.lt; omega)⟩
theorem CuW.alloc {c n : Nat} {w w1 : World} (h : CuW c n w w1) (o : Obj) : CuW c n w (w1.alloc o) := h.below ((Below.refl _ _).alloc (Nat.le_refl _) o) (Nat.le_refl _)
theorem CuW.drewN {c n : Nat} {w w1 : World} (h : CuW c n w w1) (k : Nat) : CuW c n w (w1.drewN k) := h.below (below_drewN (Below.refl _ _) k) (Nat.le_refl _)
theorem CuW.drew {c n : Nat} {w w1 : World} (h : CuW c n w w1) : CuW c n w w1.drew := h.below (Below.refl _ _).drew (Nat.le_refl _)
theorem CuW.grown {c n base : Nat} {w w1 w2 : World} {row : Option Nat} (h : CuW c n w w1) (hg : w1.grownBy w2 row) (hr : ∀ g, row = some g → base ≤ g) (hb : w.heap.size ≤ base) (hc : c < w.heap.size) : CuW c n w w2 := by
  have hs := h.ch.size
  refine ⟨⟨hg.os.trans h.ch.os, hg.tape.trans h.ch.tape, hg.output.trans h.ch.output, Nat.le_trans h.ch.size hg.size, fun k hk hd => ?_⟩, h.cu.same hg.size fun k hk => ?_⟩
  · rw [hg.block k (by omega) (fun e => by have := hr k e.symm; omega)]
    exact h.ch.block k hk hd
  · exact hg.block k (by have := h.cu.lt; omega) (fun e => by have := hr k e.symm; omega)
theorem own_chgC {w1 w2 : World} {base c size n : Nat} {e : TypeId} {v : Value} {xs : List Value} (h : w1.ownsRow base e size v n xs) (hc : Chg c (c + 1) w1 w2) (hb : c < base) : w2.ownsRow base e size v n xs := ((Own.of h).chg hc (.inr (by omega))).row
/-- A number that a draw gives. -/
def SomeI (c n : Nat) (w : World) (e : Ending) (w' : World) : Prop := ∃ x : Int, e = .returned (.int .i64 x) ∧ wfI x ∧ CuW c n w w'
/-- A list that a draw gives. -/
def ListP (c n k : Nat) (e0 : TypeId) (w : World) (e : Ending) (w' : World) : Prop := ∃ v, ∃ L : List Int, e = .returned v ∧ w'.ownsRow w.heap.size e0 1 v L.length (ints L) ∧ L.length ≤ k ∧ (∀ x ∈ L, wfI x) ∧ CuW c n w w'
theorem wfI_small {x : Int} (h0 : -4611686018427387904 ≤ x) (h1 : x ≤ 4611686018427387904) : wfI x := by
  have h : IntKind.i64.min ≤ x ∧ x ≤ IntKind.i64.max := ⟨Int.le_trans (by decide) h0, Int.le_trans h1 (by decide)⟩
  simpa [wfI, Lit.wf] using h
end Go.KD
namespace Go.Proofs.Ytmilpahggceemaa
open Go.RowKit Go.KD
attribute [local go_sem] later_cell later_frozen
set_option maxHeartbeats 4000000 in
theorem few_c (c n k : Nat) (hk0 : 0 < k) (hk : k ≤ 6) (hn : n ≤ 800000) (w : World) (h : Cu c n w) : Calls Try.prog 262 #[.pointer (some ⟨c, 0, none⟩), .int .i64 k] w (NatP c (n + 6) 64 w) := by
  have HC := Lib.hid h
  have hcz := h.lt
  clear h
  go_enter Try.func262, Try.ntmps262
  go_wp2_with fail
  refine (among_c c n 5 5 _ [0, 1, 1, 1, 2] rfl (by omega) (by omega) (by omega) _ (HC.out.later ((Below.refl _ _).alloc (Nat.le_refl _) _) hcz) (fun w' hc => ic_litC rfl rfl (by decide) hcz hc rfl)).mono ?_
  rintro e w1 ⟨x, rfl, hx, hc1, hu1⟩
  obtain ⟨j, rfl, hj⟩ : ∃ j : Nat, x = j ∧ j ≤ 2 := by simp at hx; exact ⟨x.toNat, by omega, by omega⟩
  have HW1 : Hid (CuW c (n + 2) w w1) := ((CuW.refl HC.out).alloc _).trans ⟨hc1, hu1⟩
  clear hx hc1 hu1
  go_wp2_with fail
  go_loopw [5, 6] (fun s i wr => ∃ t j : Nat, s = .int .i64 t ∧ t < 64 ∧ i = .int .i64 j ∧ j ≤ 2 ∧ Hid (CuW c (n + 6 - 2 * j) w wr)) (fun _ i _ => (intOf i).toNat)
  case atStart => exact ⟨0, j, rfl, by omega, rfl, hj, HW1.out.mono (by omega)⟩
  case round =>
    clear HW1 hj
    obtain ⟨wi, rfl⟩ : ∃ wi : World, wi = wr := ⟨_, rfl⟩
    obtain ⟨t, j, rfl, ht, rfl, hj, HW⟩ := hrel
    by_cases h0 : 0 < j
    · have h0I : (0 : Int) < (j : Int) := by omega
      go_wp2_with fail
      refine (pick_c c (n + 6 - 2 * j) k hk0 (by omega) (by omega) _ HW.out.cu).mono ?_
      rintro e w2 ⟨r, rfl, hr, hc2, hu2⟩
      obtain ⟨p, HP, ep, hp⟩ := shl_at r (by omega)
      have hp64 : p < 64 := by rw [HP.out]; exact Nat.pow_lt_pow_right (n := 6) (by omega) (by omega)
      have eo : bits .or .i64 (t : Int) (p : Int) = ((t ||| p : Nat) : Int) := i64_or t p (by omega) (by omega)
      have ht2 : t ||| p < 64 := Nat.or_lt_two_pow (n := 6) ht hp64
      have HW2 : Hid (CuW c (n + 6 - 2 * (j - 1)) w w2) := (HW.out.trans ⟨hc2, hu2⟩).mono (by omega)
      have hr63 : (r : Int) < 64 := by omega
      have hr0 : (0 : Int) ≤ (r : Int) := by omega
      clear hc2 hu2
      go_wp2_with fail
      go_roundw
      case rel => exact ⟨t ||| p, j - 1, rfl, ht2, by go_num, by omega, HW2⟩
      case measure => simp [intOf]; omega
    · obtain rfl : j = 0 := by omega
      go_wp2
      go_ret
      exact ⟨t, rfl, ht, HW.out.ch, HW.out.cu.mono (by omega)⟩
set_option maxHeartbeats 4000000 in
theorem colours_c (c n : Nat) (hn : n ≤ 800000) (w : World) (h : Cu c n w) : Calls Try.prog 136 #[.pointer (some ⟨c, 0, none⟩)] w (SomeI c (n + 10) w) := by
  have HC := Lib.hid h
  have hcz := h.lt
  clear h
  go_enter Try.func136, Try.ntmps136
  go_wp2_with fail
  refine (one_c c n 30 (by omega) (by omega) (by omega) _ HC.out).mono ?_
  rintro e w1 ⟨b, rfl, hc1, hu1⟩
  have HW1 : Hid (CuW c (n + 2) w w1) := ⟨hc1, hu1⟩
  have hcz1 := hu1.lt
  clear hc1 hu1
  cases b
  · go_wp2_with fail
    refine (pick_c c (n + 2) 4 (by omega) (by omega) (by omega) _ HW1.out.cu).mono ?_
    rintro e w2 ⟨j, rfl, hj, hc2, hu2⟩
    have HW2 : Hid (CuW c (n + 4) w w2) := HW1.out.trans ⟨hc2, hu2⟩
    clear hc2 hu2 HW1
    go_wp2_with fail
    go_loopw [3, 4] (fun s i wr => ∃ t j : Nat, s = .int .i64 t ∧ t < 64 ∧ i = .int .i64 j ∧ j ≤ 3 ∧ Hid (CuW c (n + 10 - 2 * j) w wr)) (fun _ i _ => (intOf i).toNat)
    case atStart => exact ⟨0, j, rfl, by omega, rfl, by omega, HW2.out.mono (by omega)⟩
    case round =>
      clear HW2 hj
      obtain ⟨wi, rfl⟩ : ∃ wi : World, wi = wr := ⟨_, rfl⟩
      obtain ⟨t, j, rfl, ht, rfl, hj, HW⟩ := hrel
      by_cases h0 : 0 < j
      · have h0I : (0 : Int) < (j : Int) := by omega
        go_wp2_with fail
        refine (pick_c c (n + 10 - 2 * j) 6 (by omega) (by omega) (by omega) _ HW.out.cu).mono ?_
        rintro e w2 ⟨r, rfl, hr, hc2, hu2⟩
        obtain ⟨p, HP, ep, hp⟩ := shl_at r (by omega)
        have hp64 : p < 64 := by rw [HP.out]; exact Nat.pow_lt_pow_right (n := 6) (by omega) (by omega)
        have eo : bits .or .i64 (t : Int) (p : Int) = ((t ||| p : Nat) : Int) := i64_or t p (by omega) (by omega)
        have ht2 : t ||| p < 64 := Nat.or_lt_two_pow (n := 6) ht hp64
        have HW2 : Hid (CuW c (n + 10 - 2 * (j - 1)) w w2) := (HW.out.trans ⟨hc2, hu2⟩).mono (by omega)
        have hr63 : (r : Int) < 64 := by omega
        have hr0 : (0 : Int) ≤ (r : Int) := by omega
        clear hc2 hu2
        go_wp2_with fail
        go_roundw
        case rel => exact ⟨t ||| p, j - 1, rfl, ht2, by go_num, by omega, HW2⟩
        case measure => simp [intOf]; omega
      · obtain rfl : j = 0 := by omega
        go_wp2
        go_ret
        exact ⟨(t : Int), rfl, wfI_small (by omega) (by omega), HW.out.mono (by omega)⟩
  · go_wp2_with fail
    refine (among_c c (n + 2) 4 4 _ [63, 64, -1, 4611686018427387904] rfl (by omega) (by omega) (by omega) _ (HW1.out.cu.later ((Below.refl _ _).alloc (Nat.le_refl _) _) hcz1) (fun w' hc => ic_litC rfl rfl (by decide) hcz1 hc (by first | rfl | simp))).mono ?_
    rintro e w2 ⟨x, rfl, hx, hc2, hu2⟩
    have hxw : wfI x := by simp at hx; rcases hx with rfl | rfl | rfl | rfl <;> exact wfI_small (by decide) (by decide)
    have HW2 : Hid (CuW c (n + 4) w w2) := (HW1.out.alloc _).trans ⟨hc2, hu2⟩
    clear hx hc2 hu2
    go_wp2_with fail
    go_ret
    exact ⟨x, rfl, hxw, HW2.out.mono (by omega)⟩
set_option maxRecDepth 100000 in
set_option maxHeartbeats 4000000 in
theorem sets_c (c n : Nat) (hn : n ≤ 700000) (w : World) (h : Cu c n w) : Calls Try.prog 132 #[.pointer (some ⟨c, 0, none⟩)] w (ListP c (n + 62) 7 3 w) := by
  obtain ⟨i0, hi, hz0, hz1, hz2⟩ := info_parts infoI
  have HC := Lib.hid h
  have hcz := h.lt
  clear h
  have HA : Hid (CuW c n w (w.alloc (.cells #[] 3))) := (CuW.refl HC.out).alloc _
  have HR : Hid ((w.alloc (.cells #[] 3)).ownsRow w.heap.size 3 1 (.slice (some ⟨w.heap.size, 0, none⟩) 0 0) 0 (ints [])) := World.ownsRow_lit _ _ _ (Nat.le_refl _) (by unfold maxLen; omega) (by rfl)
  have hcz1 : c < (w.alloc (.cells #[] 3)).heap.size := by simp; omega
  go_enter Try.func132, Try.ntmps132
  go_wp2_with fail
  refine (among_c c n 6 6 _ [3, 2, 4, 1, 0, 6] rfl (by omega) (by omega) (by omega) _ (HA.out.cu.later ((Below.refl _ _).alloc (Nat.le_refl _) _) hcz1) (fun w' hc => ic_litC rfl rfl (by decide) hcz1 hc (by simp))).mono ?_
  rintro e w1 ⟨x, rfl, hx, hc1, hu1⟩
  obtain ⟨j, rfl, hj⟩ : ∃ j : Nat, x = j ∧ j ≤ 6 := by simp at hx; exact ⟨x.toNat, by omega, by omega⟩
  have HW1 : Hid (CuW c (n + 2) w w1) := (HA.out.alloc _).trans ⟨hc1, hu1⟩
  have HR1 : Hid (w1.ownsRow w.heap.size 3 1 (.slice (some ⟨w.heap.size, 0, none⟩) 0 0) 0 (ints [])) := own_chgC (HR.out.alloc _) hc1 hcz
  clear hx hc1 hu1 HA HR
  go_wp2_with fail
  go_loopw [3, 4] (fun s i wr => ∃ j : Nat, ∃ L : List Int, i = .int .i64 j ∧ j ≤ 6 ∧ L.length ≤ 6 - j ∧ Hid (wr.ownsRow w.heap.size 3 1 s L.length (ints L)) ∧ Hid (∀ x ∈ L, wfI x) ∧ Hid (CuW c (n + 58 - 8 * j) w wr)) (fun _ i _ => (intOf i).toNat)
  case atStart => exact ⟨j, [], rfl, hj, Nat.zero_le _, HR1, fun x hx => (by cases hx), HW1.out.mono (by omega)⟩
  case round =>
    clear HW1 HR1 hj
    obtain ⟨wi, rfl⟩ : ∃ wi : World, wi = wr := ⟨_, rfl⟩
    obtain ⟨j, L, rfl, hj, hL, HR, HL, HW⟩ := hrel
    by_cases h0 : 0 < j
    · have h0I : (0 : Int) < (j : Int) := by omega
      go_wp2_with fail
      refine (few_c c (n + 58 - 8 * j) 6 (by omega) (by omega) (by omega) _ HW.out.cu).mono ?_
      rintro e w2 ⟨t, rfl, ht, hc2, hu2⟩
      have HW2 : Hid (CuW c (n + 64 - 8 * j) w w2) := (HW.out.trans ⟨hc2, hu2⟩).mono (by omega)
      have HR2 := Lib.hid (own_chgC HR.out hc2 hcz)
      clear hc2 hu2
      go_wp2_with fail
      refine (pick_c c (n + 64 - 8 * j) 6 (by omega) (by omega) (by omega) _ HW2.out.cu).mono ?_
      rintro e w3 ⟨r, rfl, hr, hc3, hu3⟩
      have HW3 : Hid (CuW c (n + 58 - 8 * (j - 1)) w w3) := (HW2.out.trans ⟨hc3, hu3⟩).mono (by omega)
      have HR3 := Lib.hid (own_chgC HR2.out hc3 hcz)
      clear hc3 hu3
      obtain ⟨p, HP, ep, hp⟩ := shl_at r (by omega)
      have hp64 : p < 64 := by rw [HP.out]; exact Nat.pow_lt_pow_right (n := 6) (by omega) (by omega)
      have eo : bits .or .i64 (t : Int) (p : Int) = ((t ||| p : Nat) : Int) := i64_or t p (by omega) (by omega)
      have ht2 : t ||| p < 64 := Nat.or_lt_two_pow (n := 6) ht hp64
      obtain ⟨q, hq⟩ : ∃ q, q = t ||| p := ⟨_, rfl⟩
      rw [← hq] at eo ht2
      clear hq
      have hr63 : (r : Int) < 64 := by omega
      have hr0 : (0 : Int) ≤ (r : Int) := by omega
      have hz3 := HW3.out.ch.size
      go_wp2_with (at_builtin; refine wpList_append_own _ rfl _ _ 24 rfl w.heap.size 3 i0 (.int .i64 0) 1 8 Try.underlying24 hi hz0 hz1 hz2 rfl (by decide) _ _ _ rfl (HR3.out.alloc _) ⟨w3.heap.size, 0, none⟩ 1 1 [.int .i64 (q : Int)] rfl rfl ?_ ?_ ?_ ?_ ?_ ?_; (exact cell_one_new _ _ _); (simp [Value.oneCell']); (unfold maxLen; omega); omega; (simp; omega); intro v' w4 hown' hgrow _)
      go_roundw
      case rel => exact ⟨j - 1, L ++ [(q : Int)], by go_num, by omega, by rw [List.length_append]; simp; omega, by rw [ints_snoc, List.length_append]; exact hown', fun x hx => (by
        rw [List.mem_append] at hx
        rcases hx with hx | hx
        · exact HL.out x hx
        · have : x = (q : Int) := by simpa using hx
          rw [this]; exact wfI_small (by omega) (by omega)), (HW3.out.alloc _).grown hgrow (fun g hg => own_block_lo HR3.out hg) (Nat.le_refl _) hcz⟩
      case measure => simp [intOf]; omega
    · obtain rfl : j = 0 := by omega
      go_wp2_with fail
      refine (one_c c (n + 58 - 8 * 0) 12 (by omega) (by omega) (by omega) _ HW.out.cu).mono ?_
      rintro e w2 ⟨b, rfl, hc2, hu2⟩
      have HW2 : Hid (CuW c (n + 60) w w2) := (HW.out.trans ⟨hc2, hu2⟩).mono (by omega)
      have HR2 := Lib.hid (own_chgC HR.out hc2 hcz)
      have hcz2 := hu2.lt
      clear hc2 hu2
      cases b
      · go_wp2_with fail
        go_ret
        exact ⟨_, L, rfl, HR2.out, by omega, HL.out, HW2.out.mono (by omega)⟩
      · go_wp2_with fail
        refine (among_c c (n + 60) 5 5 _ [0, 0, 63, 64, -1] rfl (by omega) (by omega) (by omega) _ (HW2.out.cu.later ((Below.refl _ _).alloc (Nat.le_refl _) _) hcz2) (fun w' hc => ic_litC rfl rfl (by decide) hcz2 hc rfl)).mono ?_
        rintro e w3 ⟨x, rfl, hx, hc3, hu3⟩
        have hxw : wfI x := by simp at hx; rcases hx with rfl | rfl | rfl | rfl <;> exact wfI_small (by decide) (by decide)
        have HW3 : Hid (CuW c (n + 62) w w3) := (HW2.out.alloc _).trans ⟨hc3, hu3⟩
        have HR3 := Lib.hid (own_chgC (HR2.out.alloc _) hc3 hcz)
        have HX := Lib.hid hxw
        have hz3 := HW3.out.ch.size
        clear hx hc3 hu3 hxw
        go_wp2_with (at_builtin; refine wpList_append_own _ rfl _ _ 24 rfl w.heap.size 3 i0 (.int .i64 0) 1 8 Try.underlying24 hi hz0 hz1 hz2 rfl (by decide) _ _ _ rfl (HR3.out.alloc _) ⟨w3.heap.size, 0, none⟩ 1 1 [.int .i64 x] rfl rfl ?_ ?_ ?_ ?_ ?_ ?_; (exact cell_one_new _ _ _); (simp [Value.oneCell']); (unfold maxLen; omega); omega; (simp; omega); intro v' w4 hown' hgrow _)
        go_ret
        exact ⟨_, L ++ [x], rfl, by rw [ints_snoc, List.length_append]; exact hown', by rw [List.length_append]; simp; omega, fun y hy => (by
          rw [List.mem_append] at hy
          rcases hy with hy | hy
          · exact HL.out y hy
          · have : y = x := by simpa using hy
            rw [this]; exact HX.out), (HW3.out.alloc _).grown hgrow (fun g hg => own_block_lo HR3.out hg) (Nat.le_refl _) hcz⟩
end Go.Proofs.Ytmilpahggceemaa

namespace Go.KD
open Go.RowKit
theorem chg_frozen {lo hi : Nat} {w w' : World} (h : Chg lo hi w w') {b o : Nat} (hp : b < w.heap.size) (hd : b < lo ∨ hi ≤ b) : w'.frozen? ⟨b, o, none⟩ = w.frozen? ⟨b, o, none⟩ := by
  unfold World.frozen?
  simp only
  rw [h.block b hp hd]
/-- A struct of three fields in block g, its two rows in memory of the call. -/
structure WB (c n base g : Nat) (e4 e1 : TypeId) (s4 : Nat) (w W : World) (sz : Int) (xg : List Value) (ng : Nat) (vg : Value) (pl : List Int) (vp : Value) : Prop where
  cu : CuW c n w W
  c0 : W.cell? ⟨g, 0, none⟩ = some (.int .i64 sz)
  c1 : W.cell? ⟨g, 1, none⟩ = some vg
  c2 : W.cell? ⟨g, 2, none⟩ = some vp
  fz : ∀ o, o < 3 → W.frozen? ⟨g, o, none⟩ = false
  rg : W.ownsRow base e4 s4 vg ng xg
  rp : W.ownsRow base e1 1 vp pl.length (ints pl)
  ap : ∀ b, vg.ownBlock = some b → vp.ownBlock ≠ some b
  gg : vg.ownBlock ≠ some g
  gp : vp.ownBlock ≠ some g
  gb : base ≤ g
  gz : g < W.heap.size
  bb : c < w.heap.size
  wb : w.heap.size ≤ base
variable {c n n' base g s4 ng : Nat} {e4 e1 : TypeId} {w W W2 W3 : World} {sz : Int} {xg : List Value} {vg vp : Value} {pl : List Int}
theorem WB.draw (h : WB c n base g e4 e1 s4 w W sz xg ng vg pl vp) (k : CuW c n' W W2) : WB c n' base g e4 e1 s4 w W2 sz xg ng vg pl vp := by
  have hb := h.bb
  have hg := h.gb
  have hw := h.wb
  have hne : g < c ∨ c + 1 ≤ g := .inr (by omega)
  exact ⟨h.cu.trans k, (k.ch.cell (p := ⟨g, 0, none⟩) h.gz hne).trans h.c0, (k.ch.cell (p := ⟨g, 1, none⟩) h.gz hne).trans h.c1, (k.ch.cell (p := ⟨g, 2, none⟩) h.gz hne).trans h.c2,
    fun o ho => (chg_frozen k.ch h.gz hne).trans (h.fz o ho), own_chgC h.rg k.ch (by omega), own_chgC h.rp k.ch (by omega), h.ap, h.gg, h.gp, hg, Nat.lt_of_lt_of_le h.gz k.ch.size, hb, h.wb⟩
theorem WB.below {B : Nat} (h : WB c n base g e4 e1 s4 w W sz xg ng vg pl vp) (k : Below B W W2) (hB : W.heap.size ≤ B) : WB c n base g e4 e1 s4 w W2 sz xg ng vg pl vp :=
  h.draw ((CuW.refl h.cu.cu).below k hB)
theorem WB.alloc (h : WB c n base g e4 e1 s4 w W sz xg ng vg pl vp) (o : Obj) : WB c n base g e4 e1 s4 w (W.alloc o) sz xg ng vg pl vp := h.below ((Below.refl _ _).alloc (Nat.le_refl _) o) (Nat.le_refl _)
theorem WB.drew (h : WB c n base g e4 e1 s4 w W sz xg ng vg pl vp) : WB c n base g e4 e1 s4 w W.drew sz xg ng vg pl vp := h.below (Below.refl _ _).drew (Nat.le_refl _)
theorem WB.drewN (h : WB c n base g e4 e1 s4 w W sz xg ng vg pl vp) (k : Nat) : WB c n base g e4 e1 s4 w (W.drewN k) sz xg ng vg pl vp := h.below (below_drewN (Below.refl _ _) k) (Nat.le_refl _)
theorem WB.mono (h : WB c n base g e4 e1 s4 w W sz xg ng vg pl vp) (hn : n ≤ n') : WB c n' base g e4 e1 s4 w W sz xg ng vg pl vp := { h with cu := h.cu.mono hn }
theorem cuw_set (h : CuW c n w W) {a : Addr} (h1 : c < a.block) (h2 : w.heap.size ≤ a.block) (u : Value) : CuW c n w (W.setCell a u) := by
  have hg := grown_setCell W a u
  refine ⟨⟨hg.os.trans h.ch.os, hg.tape.trans h.ch.tape, hg.output.trans h.ch.output, Nat.le_trans h.ch.size hg.size, fun k hk hd => ?_⟩, h.cu.same hg.size fun k hk => ?_⟩
  · rw [hg.block k (by have := h.ch.size; omega) (fun e => by cases e; omega)]
    exact h.ch.block k hk hd
  · exact hg.block k (by have := h.cu.lt; omega) (fun e => by cases e; omega)
theorem own_setC {size k : Nat} {e : TypeId} {v : Value} {xs : List Value} (h : W.ownsRow base e size v k xs) {a : Addr} (hne : v.ownBlock ≠ some a.block) (u : Value) : (W.setCell a u).ownsRow base e size v k xs :=
  ((Own.of h).grown_ne (grown_setCell W a u) (fun b hb e => hne (by rw [hb]; exact e.symm))).row
theorem frozen_set (W : World) (a p : Addr) (u : Value) : (W.setCell a u).frozen? p = W.frozen? p := by simp [go_sem]
theorem cell_setO {b o o' : Nat} (W : World) (u : Value) (h : o ≠ o') : (W.setCell ⟨b, o, none⟩ u).cell? ⟨b, o', none⟩ = W.cell? ⟨b, o', none⟩ := World.cell?_setCell_other _ _ _ _ (by intro e; exact h (congrArg Addr.off e))
theorem cell_setS {b o : Nat} {x : Value} (W : World) (u : Value) (h : W.cell? ⟨b, o, none⟩ = some x) : (W.setCell ⟨b, o, none⟩ u).cell? ⟨b, o, none⟩ = some u := by simp [go_sem, h]
/-- A new size. -/
theorem WB.size (h : WB c n base g e4 e1 s4 w W sz xg ng vg pl vp) (x : Int) : WB c n base g e4 e1 s4 w (W.setCell ⟨g, 0, none⟩ (.int .i64 x)) x xg ng vg pl vp := by
  have hb := h.bb
  have hg := h.gb
  have hw := h.wb
  exact ⟨cuw_set h.cu (by show c < g; omega) (by show w.heap.size ≤ g; omega) _, cell_setS _ _ h.c0, (cell_setO _ _ (by omega)).trans h.c1, (cell_setO _ _ (by omega)).trans h.c2, fun o ho => (frozen_set _ _ _ _).trans (h.fz o ho), own_setC h.rg h.gg _, own_setC h.rp h.gp _, h.ap, h.gg, h.gp, hg, by simpa using h.gz, hb, hw⟩
theorem Own.block_lt {size k b : Nat} {e : TypeId} {v : Value} {xs : List Value} (h : W.ownsRow base e size v k xs) (hb : v.ownBlock = some b) : b < W.heap.size := (Own.of h).top b hb
/-- The second row grows. -/
theorem WB.push1 {x : Int} {v' : Value} (h : WB c n base g e4 e1 s4 w W sz xg ng vg pl vp) (ho : W2.ownsRow base e1 1 v' (pl.length + 1) (ints pl ++ [.int .i64 x])) (hg : W.grownBy W2 vp.ownBlock) (ha : v'.ownBlock = vp.ownBlock ∨ v'.ownBlock = some W.heap.size) :
    WB c n base g e4 e1 s4 w (W2.setCell ⟨g, 2, none⟩ v') sz xg ng vg (pl ++ [x]) v' := by
  have hb := h.bb
  have hgb := h.gb
  have hw := h.wb
  have hgz := h.gz
  have hcu : CuW c n w W2 := h.cu.grown hg (fun b hbk => own_block_lo h.rp hbk) hw hb
  have hgne : vp.ownBlock ≠ some g := h.gp
  have hcell : ∀ o, W2.cell? ⟨g, o, none⟩ = W.cell? ⟨g, o, none⟩ := fun o => World.cell?_of_block (hg.block g hgz (fun e => hgne e.symm))
  have hfz : ∀ o, W2.frozen? ⟨g, o, none⟩ = W.frozen? ⟨g, o, none⟩ := fun o => by
    unfold World.frozen?
    simp only
    rw [hg.block g hgz (fun e => hgne e.symm)]
  have hrg : W2.ownsRow base e4 s4 vg ng xg := ((Own.of h.rg).grown_ne hg (fun b hbb e => h.ap b hbb e)).row
  have hng : v'.ownBlock ≠ some g := by
    rcases ha with ha | ha
    · rw [ha]; exact hgne
    · rw [ha]; intro e; cases e; omega
  have hap : ∀ b, vg.ownBlock = some b → v'.ownBlock ≠ some b := fun b hbb => by
    rcases ha with ha | ha
    · rw [ha]; exact h.ap b hbb
    · rw [ha]; intro e; cases e
      have := Own.block_lt h.rg hbb
      omega
  refine ⟨cuw_set hcu (by show c < g; omega) (by show w.heap.size ≤ g; omega) _, (cell_setO _ _ (by omega)).trans ((hcell 0).trans h.c0), (cell_setO _ _ (by omega)).trans ((hcell 1).trans h.c1), cell_setS _ _ ((hcell 2).trans h.c2), fun o ho => (frozen_set _ _ _ _).trans ((hfz o).trans (h.fz o ho)), own_setC hrg h.gg _, ?_, hap, h.gg, hng, hgb, ?_, hb, hw⟩
  · rw [ints_snoc, List.length_append]
    exact own_setC ho hng _
  · have := hg.size
    simp; omega
/-- A new first row. -/
theorem WB.first {xg' : List Value} {ng' g' cp : Nat} (h : WB c n base g e4 e1 s4 w W sz xg ng vg pl vp) (hB : Below W.heap.size W W2) (ho : W2.ownsRow base e4 s4 (.slice (some ⟨g', 0, none⟩) ng' cp) ng' xg') (ha : vg.ownBlock = some g' ∨ W.heap.size ≤ g') :
    WB c n base g e4 e1 s4 w (W2.setCell ⟨g, 1, none⟩ (.slice (some ⟨g', 0, none⟩) ng' cp)) sz xg' ng' (.slice (some ⟨g', 0, none⟩) ng' cp) pl vp := by
  have h2 := h.below hB (Nat.le_refl _)
  have hb := h.bb
  have hgb := h.gb
  have hw := h.wb
  have hgz := h.gz
  have hne : g' ≠ g := by
    rcases ha with ha | ha
    · intro e; rw [e] at ha; exact h.gg ha
    · omega
  have hgg : (Value.slice (some ⟨g', 0, none⟩) ng' cp).ownBlock ≠ some g := fun e => hne (by simpa [Value.ownBlock] using e)
  refine ⟨cuw_set h2.cu (by show c < g; omega) (by show w.heap.size ≤ g; omega) _, (cell_setO _ _ (by omega)).trans h2.c0, cell_setS _ _ h2.c1, (cell_setO _ _ (by omega)).trans h2.c2, fun o ho => (frozen_set _ _ _ _).trans (h2.fz o ho), own_setC ho hgg _, own_setC h2.rp h2.gp _, fun b hbb e => ?_, hgg, h2.gp, hgb, by simpa using h2.gz, hb, hw⟩
  have hb' : g' = b := by simpa [Value.ownBlock] using hbb
  subst hb'
  rcases ha with ha | ha
  · exact h.ap _ ha e
  · have := Own.block_lt h.rp e
    omega
/-- The first row grows in place or anew. -/
theorem WB.push4 {news : List Value} {v' : Value} {m : Nat} (h : WB c n base g e4 e1 s4 w W sz xg ng vg pl vp) (ho : W2.ownsRow base e4 s4 v' (ng + m) (xg ++ news)) (hg : W.grownBy W2 vg.ownBlock) (ha : v'.ownBlock = vg.ownBlock ∨ v'.ownBlock = some W.heap.size) :
    WB c n base g e4 e1 s4 w (W2.setCell ⟨g, 1, none⟩ v') sz (xg ++ news) (ng + m) v' pl vp := by
  have hb := h.bb
  have hgb := h.gb
  have hw := h.wb
  have hgz := h.gz
  have hcu : CuW c n w W2 := h.cu.grown hg (fun b hbk => own_block_lo h.rg hbk) hw hb
  have hgne : vg.ownBlock ≠ some g := h.gg
  have hcell : ∀ o, W2.cell? ⟨g, o, none⟩ = W.cell? ⟨g, o, none⟩ := fun o => World.cell?_of_block (hg.block g hgz (fun e => hgne e.symm))
  have hfz : ∀ o, W2.frozen? ⟨g, o, none⟩ = W.frozen? ⟨g, o, none⟩ := fun o => by
    unfold World.frozen?
    simp only
    rw [hg.block g hgz (fun e => hgne e.symm)]
  have hrp : W2.ownsRow base e1 1 vp pl.length (ints pl) := ((Own.of h.rp).grown_ne hg (fun b hbb e => h.ap b e hbb)).row
  have hng : v'.ownBlock ≠ some g := by
    rcases ha with ha | ha
    · rw [ha]; exact hgne
    · rw [ha]; intro e; cases e; omega
  have hap : ∀ b, v'.ownBlock = some b → vp.ownBlock ≠ some b := fun b hbb => by
    rcases ha with ha | ha
    · rw [ha] at hbb; exact h.ap b hbb
    · rw [ha] at hbb; cases hbb
      intro e
      have := Own.block_lt h.rp e
      omega
  refine ⟨cuw_set hcu (by show c < g; omega) (by show w.heap.size ≤ g; omega) _, (cell_setO _ _ (by omega)).trans ((hcell 0).trans h.c0), cell_setS _ _ ((hcell 1).trans h.c1), (cell_setO _ _ (by omega)).trans ((hcell 2).trans h.c2), fun o ho => (frozen_set _ _ _ _).trans ((hfz o).trans (h.fz o ho)), own_setC ho hng _, own_setC hrp h.gp _, hap, hng, h.gp, hgb, ?_, hb, hw⟩
  have := hg.size
  simp; omega
/-- What a draw of works gives. -/
def WorksP (c n : Nat) (w : World) (e : Ending) (w' : World) : Prop := ∃ v, ∃ m : Wk, e = .returned v ∧ (∀ w'', Chg 0 w.heap.size w' w'' → WkAt w'' v m) ∧ m.gates.length ≤ 40 ∧ m.pulls.length ≤ 40 ∧ (0 ≤ m.size ∧ m.size ≤ 13) ∧ CuW c n w w'
theorem WB.works {gl : List D4} (h : WB c n base g e4 e1 4 w W sz (c4 gl) gl.length vg pl vp) (h1 : gl.length ≤ 40) (h2 : pl.length ≤ 40) : ∃ ag cg ap cp, vg = .slice ag gl.length cg ∧ vp = .slice ap pl.length cp ∧ WkAt W (.agg #[.int .i64 sz, .slice ag gl.length cg, .slice ap pl.length cp]) ⟨sz, gl, pl⟩ := by
  obtain ⟨ag, cg, rfl, -, hd⟩ := (Own.of h.rg).d4
  obtain ⟨ap, cp, rfl, -, hi⟩ := (Own.of h.rp).ic
  exact ⟨ag, cg, ap, cp, rfl, rfl, ⟨⟨ag, cg, ap, cp, rfl, hd, hi⟩, by dsimp only; omega, by dsimp only; omega⟩⟩
/-- The stores of a struct into an older block. -/
theorem WB.out {r o : Nat} (h : WB c n base g e4 e1 s4 w W sz xg ng vg pl vp) (hr : r < base) (hc : c < r) (hw : w.heap.size ≤ r) (u : Value) : CuW c n w (W.setCell ⟨r, o, none⟩ u) ∧ (W.setCell ⟨r, o, none⟩ u).ownsRow base e4 s4 vg ng xg ∧ (W.setCell ⟨r, o, none⟩ u).ownsRow base e1 1 vp pl.length (ints pl) := by
  refine ⟨cuw_set h.cu hc hw _, own_setC h.rg (fun e => ?_) _, own_setC h.rp (fun e => ?_) _⟩
  · have := own_block_lo h.rg e
    dsimp only at this; omega
  · have := own_block_lo h.rp e
    dsimp only at this; omega
theorem WB.start {T : TypeId} (h : CuW c n w W) (hb : c < w.heap.size) : WB c n w.heap.size (W.heap.size + 1 + 1) e4 e1 s4 w (((W.alloc (.cells #[] e4)).alloc (.cells #[] e1)).alloc (.cells #[.int .i64 sz, .slice (some ⟨W.heap.size, 0, none⟩) 0 0, .slice (some ⟨W.heap.size + 1, 0, none⟩) 0 0] T)) sz [] 0 (.slice (some ⟨W.heap.size, 0, none⟩) 0 0) [] (.slice (some ⟨W.heap.size + 1, 0, none⟩) 0 0) := by
  have hs := h.ch.size
  refine ⟨((h.alloc _).alloc _).alloc _, by simp [go_sem], by simp [go_sem], by simp [go_sem], fun o ho => by simp [go_sem], ?_, ?_, fun b hb1 hb2 => ?_, fun e => ?_, fun e => ?_, by omega, by simp, hb, Nat.le_refl _⟩
  · refine ⟨by simp, .inr ⟨W.heap.size, 0, #[], rfl, hs, ?_, Nat.le_refl _, Nat.zero_le _, by simp, by simp⟩⟩
    rw [heap_alloc_old _ _ (by simp; omega), heap_alloc_old _ _ (by simp)]
    exact heap_alloc_last W _
  · refine ⟨by simp, .inr ⟨W.heap.size + 1, 0, #[], rfl, by omega, ?_, Nat.le_refl _, Nat.zero_le _, by simp, rfl⟩⟩
    rw [heap_alloc_old _ _ (by simp)]
    have := heap_alloc_last (W.alloc (.cells #[] e4)) (.cells #[] e1)
    simpa using this
  · have h1 : W.heap.size = b := by simpa [Value.ownBlock] using hb1
    have h2 : W.heap.size + 1 = b := by simpa [Value.ownBlock] using hb2
    omega
  · simp [Value.ownBlock] at e
    omega
  · simp [Value.ownBlock] at e
theorem own_someP {k b cap size : Nat} {e : TypeId} {xs : List Value} (h : W.ownsRow base e size (.slice (some ⟨b, 0, none⟩) k cap) k xs) : b < W.heap.size ∧ k ≤ cap ∧ cap ≤ maxLen ∧ base ≤ b ∧ ∀ j u, xs[j]? = some u → W.cell? ((⟨b, 0, none⟩ : Addr).add j) = some u := by
  have hl := h.1
  refine ⟨(Own.of h).top b rfl, ?_, ?_, own_block_lo h rfl, fun j u hu => ?_⟩
  · rcases h.2 with ⟨hv, _⟩ | ⟨g', cap', cur, hv, hlo, hh, hn, hm, _⟩
    · cases hv
    · cases hv; exact hn
  · rcases h.2 with ⟨hv, _⟩ | ⟨g', cap', cur, hv, hlo, hh, hn, hm, _⟩
    · cases hv
    · cases hv; exact hm
  · have hj : j < xs.length := by
      rcases Nat.lt_or_ge j xs.length with h | h
      · exact h
      · rw [List.getElem?_eq_none h] at hu; cases hu
    rw [add_at rfl, Nat.zero_add, h.cellAt j (by omega), hu]
theorem WB.far2 (h : WB c n base g e4 e1 s4 w W sz xg ng vg pl vp) (hg : W.grownBy W2 vp.ownBlock) : W2.cell? ⟨g, 2, none⟩ = some vp ∧ W2.frozen? ⟨g, 2, none⟩ = false ∧ g < W2.heap.size := by
  have hne : ¬ some g = vp.ownBlock := fun e => h.gp e.symm
  refine ⟨(World.cell?_of_block (hg.block g h.gz hne)).trans h.c2, ?_, Nat.lt_of_lt_of_le h.gz hg.size⟩
  have := h.fz 2 (by omega)
  unfold World.frozen? at *
  simp only at *
  rw [hg.block g h.gz hne]; exact this
theorem WB.far1 (h : WB c n base g e4 e1 s4 w W sz xg ng vg pl vp) (hg : W.grownBy W2 vg.ownBlock) : W2.cell? ⟨g, 1, none⟩ = some vg ∧ W2.frozen? ⟨g, 1, none⟩ = false ∧ g < W2.heap.size := by
  have hne : ¬ some g = vg.ownBlock := fun e => h.gg e.symm
  refine ⟨(World.cell?_of_block (hg.block g h.gz hne)).trans h.c1, ?_, Nat.lt_of_lt_of_le h.gz hg.size⟩
  have := h.fz 1 (by omega)
  unfold World.frozen? at *
  simp only at *
  rw [hg.block g h.gz hne]; exact this
theorem res_facts {wr0 : World} {a b d : Value} {T : TypeId} (hw : wr0 = w.alloc (.cells #[a, b, d] T)) (h : Chg c (c + 1) wr0 W) (hc : c < w.heap.size) : W.cell? ⟨w.heap.size, 0, none⟩ = some a ∧ W.cell? ⟨w.heap.size, 1, none⟩ = some b ∧ W.cell? ⟨w.heap.size, 2, none⟩ = some d ∧ W.frozen? ⟨w.heap.size, 0, none⟩ = false ∧ W.frozen? ⟨w.heap.size, 1, none⟩ = false ∧ W.frozen? ⟨w.heap.size, 2, none⟩ = false ∧ w.heap.size < W.heap.size := by
  have hz : w.heap.size < wr0.heap.size := by rw [hw]; simp
  have hne : w.heap.size < c ∨ c + 1 ≤ w.heap.size := .inr (by omega)
  refine ⟨?_, ?_, ?_, ?_, ?_, ?_, Nat.lt_of_lt_of_le hz h.size⟩
  · rw [h.cell (p := ⟨w.heap.size, 0, none⟩) hz hne, hw]; simp [go_sem]
  · rw [h.cell (p := ⟨w.heap.size, 1, none⟩) hz hne, hw]; simp [go_sem]
  · rw [h.cell (p := ⟨w.heap.size, 2, none⟩) hz hne, hw]; simp [go_sem]
  · rw [chg_frozen h hz hne, hw]; simp [go_sem]
  · rw [chg_frozen h hz hne, hw]; simp [go_sem]
  · rw [chg_frozen h hz hne, hw]; simp [go_sem]
theorem works_end {wr0 : World} {r bg cg bp cp n0 : Nat} {gl : List D4} (h : WB c n base g e4 e1 4 wr0 W sz (c4 gl) gl.length (.slice (some ⟨bg, 0, none⟩) gl.length cg) pl (.slice (some ⟨bp, 0, none⟩) pl.length cp)) (h0 : CuW c n0 w wr0) (hr : r < base) (hc : c < r) (hw : w.heap.size ≤ r) (h1 : gl.length ≤ 40) (h2 : pl.length ≤ 40) (x0 x1 x2 : Value) :
    (∀ w'', Chg 0 w.heap.size (((W.setCell ⟨r, 0, none⟩ x0).setCell ⟨r, 1, none⟩ x1).setCell ⟨r, 2, none⟩ x2) w'' → WkAt w'' (.agg #[.int .i64 sz, .slice (some ⟨bg, 0, none⟩) gl.length cg, .slice (some ⟨bp, 0, none⟩) pl.length cp]) ⟨sz, gl, pl⟩) ∧ CuW c n w (((W.setCell ⟨r, 0, none⟩ x0).setCell ⟨r, 1, none⟩ x1).setCell ⟨r, 2, none⟩ x2) := by
  have hbw := h.bb
  have hwb := h.wb
  have hne1 : (Value.slice (some ⟨bg, 0, none⟩) gl.length cg).ownBlock ≠ some r := fun e => by have := own_block_lo h.rg e; omega
  have hne2 : (Value.slice (some ⟨bp, 0, none⟩) pl.length cp).ownBlock ≠ some r := fun e => by have := own_block_lo h.rp e; omega
  have r1 := own_setC (own_setC (own_setC h.rg (a := ⟨r, 0, none⟩) hne1 x0) (a := ⟨r, 1, none⟩) hne1 x1) (a := ⟨r, 2, none⟩) hne1 x2
  have r2 := own_setC (own_setC (own_setC h.rp (a := ⟨r, 0, none⟩) hne2 x0) (a := ⟨r, 1, none⟩) hne2 x1) (a := ⟨r, 2, none⟩) hne2 x2
  refine ⟨fun w'' hch => ?_, cuw_set (cuw_set (cuw_set (h0.trans h.cu) (a := ⟨r, 0, none⟩) hc hw x0) (a := ⟨r, 1, none⟩) hc hw x1) (a := ⟨r, 2, none⟩) hc hw x2⟩
  have q1 := ((Own.of r1).chg hch (.inr (by omega))).row
  have q2 := ((Own.of r2).chg hch (.inr (by omega))).row
  obtain ⟨ag, cg', e1, -, hd⟩ := (Own.of q1).d4
  obtain ⟨ap, cp', e2, -, hi⟩ := (Own.of q2).ic
  cases e1
  cases e2
  exact ⟨⟨_, _, _, _, rfl, hd, hi⟩, by dsimp only; omega, by dsimp only; omega⟩
/-- All are numbers. -/
def AI (ys : List Value) : Prop := ∀ v ∈ ys, ∃ x : Int, v = .int .i64 x
theorem AI.set {ys : List Value} (h : AI ys) (j : Nat) (x : Int) : AI (ys.set j (.int .i64 x)) := by
  intro v hv
  rcases List.mem_or_eq_of_mem_set hv with hv | hv
  · exact h v hv
  · exact ⟨x, hv⟩
theorem ai_c4 (gl : List D4) : AI (c4 gl) := by
  intro v hv
  unfold c4 at hv
  rw [List.mem_flatMap] at hv
  obtain ⟨d, -, hd⟩ := hv
  simp only [List.mem_cons, List.not_mem_nil, or_false] at hd
  rcases hd with h | h | h | h <;> exact ⟨_, h⟩
theorem ai_c3 (gl : List D3) : AI (c3 gl) := by
  intro v hv
  unfold c3 at hv
  rw [List.mem_flatMap] at hv
  obtain ⟨d, -, hd⟩ := hv
  simp only [List.mem_cons, List.not_mem_nil, or_false] at hd
  rcases hd with h | h | h <;> exact ⟨_, h⟩
theorem c4_of : ∀ (k : Nat) (ys : List Value), ys.length = k * 4 → AI ys → ∃ gl : List D4, gl.length = k ∧ c4 gl = ys
  | 0, ys, h, _ => ⟨[], rfl, (List.eq_nil_of_length_eq_zero (by omega)).symm⟩
  | k + 1, ys, h, ha => by
    rcases ys with _ | ⟨a, _ | ⟨b, _ | ⟨c, _ | ⟨d, ys⟩⟩⟩⟩
    · simp at h
    · simp at h; omega
    · simp at h; omega
    · simp at h; omega
    · obtain ⟨a', rfl⟩ := ha a (by simp)
      obtain ⟨b', rfl⟩ := ha b (by simp)
      obtain ⟨c', rfl⟩ := ha c (by simp)
      obtain ⟨d', rfl⟩ := ha d (by simp)
      obtain ⟨gl, h1, h2⟩ := c4_of k ys (by simp at h; omega) (fun v hv => ha v (by simp [hv]))
      exact ⟨(a', b', c', d') :: gl, by simp [h1], by rw [← h2]; rfl⟩
theorem c3_of : ∀ (k : Nat) (ys : List Value), ys.length = k * 3 → AI ys → ∃ gl : List D3, gl.length = k ∧ c3 gl = ys
  | 0, ys, h, _ => ⟨[], rfl, (List.eq_nil_of_length_eq_zero (by omega)).symm⟩
  | k + 1, ys, h, ha => by
    rcases ys with _ | ⟨a, _ | ⟨b, _ | ⟨c, ys⟩⟩⟩
    · simp at h
    · simp at h; omega
    · simp at h; omega
    · obtain ⟨a', rfl⟩ := ha a (by simp)
      obtain ⟨b', rfl⟩ := ha b (by simp)
      obtain ⟨c', rfl⟩ := ha c (by simp)
      obtain ⟨gl, h1, h2⟩ := c3_of k ys (by simp at h; omega) (fun v hv => ha v (by simp [hv]))
      exact ⟨(a', b', c') :: gl, by simp [h1], by rw [← h2]; rfl⟩
theorem set_ne {b b' o o' : Nat} (W : World) (u : Value) (h : b ≠ b') : (W.setCell ⟨b, o, none⟩ u).cell? ⟨b', o', none⟩ = W.cell? ⟨b', o', none⟩ := World.cell?_setCell_other _ _ _ _ (by intro e; exact h (congrArg Addr.block e))
/-- A number is stored into the first row. -/
theorem WB.setg {bg cg j : Nat} {x : Int} (h : WB c n base g e4 e1 s4 w W sz xg ng (.slice (some ⟨bg, 0, none⟩) ng cg) pl vp) : WB c n base g e4 e1 s4 w (W.setCell ⟨bg, j, none⟩ (.int .i64 x)) sz (xg.set j (.int .i64 x)) ng (.slice (some ⟨bg, 0, none⟩) ng cg) pl vp := by
  have hb := h.bb
  have hw := h.wb
  have hlo : base ≤ bg := own_block_lo h.rg rfl
  have hne : bg ≠ g := fun e => h.gg (by rw [e]; rfl)
  have hnp : vp.ownBlock ≠ some bg := h.ap bg rfl
  exact ⟨cuw_set h.cu (by show c < bg; omega) (by show w.heap.size ≤ bg; omega) _, (set_ne _ _ hne).trans h.c0, (set_ne _ _ hne).trans h.c1, (set_ne _ _ hne).trans h.c2, fun o ho => (frozen_set _ _ _ _).trans (h.fz o ho), (h.rg.stored j _).1, own_setC h.rp hnp _, h.ap, h.gg, h.gp, h.gb, by simpa using h.gz, hb, hw⟩
/-- A number is stored into the second row. -/
theorem WB.setp {bp cp j : Nat} {x : Int} (h : WB c n base g e4 e1 s4 w W sz xg ng vg pl (.slice (some ⟨bp, 0, none⟩) pl.length cp)) : WB c n base g e4 e1 s4 w (W.setCell ⟨bp, j, none⟩ (.int .i64 x)) sz xg ng vg (pl.set j x) (.slice (some ⟨bp, 0, none⟩) (pl.set j x).length cp) := by
  have hb := h.bb
  have hw := h.wb
  have hlo : base ≤ bp := own_block_lo h.rp rfl
  have hne : bp ≠ g := fun e => h.gp (by rw [e]; rfl)
  have hnp : vg.ownBlock ≠ some bp := fun e => h.ap bp e rfl
  have hr := (own_store1 h.rp j x).1
  rw [List.length_set]
  exact ⟨cuw_set h.cu (by show c < bp; omega) (by show w.heap.size ≤ bp; omega) _, (set_ne _ _ hne).trans h.c0, (set_ne _ _ hne).trans h.c1, (set_ne _ _ hne).trans h.c2, fun o ho => (frozen_set _ _ _ _).trans (h.fz o ho), own_setC h.rg hnp _, by rw [List.length_set]; exact hr, fun b hb1 hb2 => h.ap b hb1 hb2, h.gg, h.gp, h.gb, by simpa using h.gz, hb, hw⟩
/-- A literal that lies in a block reads so behind a draw. -/
theorem ic_at {g' k : Nat} {W' : World} {e : TypeId} {cs : Array Value} {l : List Int} (hcs : cs.toList = ints l) (hk : k = l.length) (hm : k ≤ 100) (hg : W.heap[g']? = some (.cells cs e)) (hc : c < g') (h : Chg c (c + 1) W W') : IC W' (some ⟨g', 0, none⟩) l := by
  subst hk
  have hz : g' < W.heap.size := by
    rcases Nat.lt_or_ge g' W.heap.size with h | h
    · exact h
    · rw [Array.getElem?_eq_none h] at hg; cases hg
  have hl : cs.size = l.length := by have := congrArg List.length hcs; simpa using this
  have ho : W.ownsRow g' e 1 (.slice (some ⟨g', 0, none⟩) l.length l.length) l.length (ints l) := ⟨by simp, .inr ⟨g', l.length, cs, rfl, Nat.le_refl _, hg, Nat.le_refl _, by unfold maxLen; omega, by omega, by rw [hcs, Nat.mul_one, List.take_of_length_le (by simp)]⟩⟩
  exact ic_of (Own.of (own_chgC ho h hc))
/-- What a region reads of works in work. -/
theorem WB.sg {gl : List D4} {bg cg kk : Nat} (h : WB c n base g e4 e1 4 w W sz (c4 gl) gl.length (.slice (some ⟨bg, 0, none⟩) gl.length cg) pl vp) (hk : kk < gl.length) :
    W.cell? ⟨g, 1, none⟩ = some (.slice (some ⟨bg, 0, none⟩) gl.length cg) ∧ W.cell? ⟨bg, kk * 4, none⟩ = some (.int .i64 (gl[kk]!).1) ∧ W.cell? ⟨bg, kk * 4 + 1, none⟩ = some (.int .i64 (gl[kk]!).2.1) := by
  obtain ⟨h0, h1, -, -⟩ := get_c4 gl kk hk
  exact ⟨h.c1, by rw [h.rg.cellAt _ (by omega), h0], by rw [h.rg.cellAt _ (by omega), h1]⟩
theorem WB.fg {gl : List D4} {bg cg kk : Nat} (h : WB c n base g e4 e1 4 w W sz (c4 gl) gl.length (.slice (some ⟨bg, 0, none⟩) gl.length cg) pl vp) (hk : kk < gl.length) :
    (∃ u, W.cell? ⟨bg, kk * 4 + 2, none⟩ = some u) ∧ (∃ u, W.cell? ⟨bg, kk * 4 + 3, none⟩ = some u) ∧ W.frozen? ⟨bg, kk * 4, none⟩ = false ∧ W.frozen? ⟨bg, kk * 4 + 1, none⟩ = false ∧ W.frozen? ⟨bg, kk * 4 + 2, none⟩ = false ∧ W.frozen? ⟨bg, kk * 4 + 3, none⟩ = false ∧ bg < W.heap.size ∧ bg ≠ g := by
  have hl := h.rg.1
  exact ⟨(own_cell h.rg (kk * 4 + 2) (by omega)).1, (own_cell h.rg (kk * 4 + 3) (by omega)).1, (own_cell h.rg (kk * 4) (by omega)).2, (own_cell h.rg (kk * 4 + 1) (by omega)).2, (own_cell h.rg (kk * 4 + 2) (by omega)).2, (own_cell h.rg (kk * 4 + 3) (by omega)).2, Own.block_lt h.rg rfl, fun e => h.gg (by rw [e]; rfl)⟩
theorem WB.set4 {gl : List D4} {bg cg kk : Nat} (h : WB c n base g e4 e1 4 w W sz (c4 gl) gl.length (.slice (some ⟨bg, 0, none⟩) gl.length cg) pl vp) (a b d e : Int) :
    ∃ gl' : List D4, gl'.length = gl.length ∧ WB c n base g e4 e1 4 w ((((W.setCell ⟨bg, kk * 4, none⟩ (.int .i64 a)).setCell ⟨bg, kk * 4 + 1, none⟩ (.int .i64 b)).setCell ⟨bg, kk * 4 + 2, none⟩ (.int .i64 d)).setCell ⟨bg, kk * 4 + 3, none⟩ (.int .i64 e)) sz (c4 gl') gl'.length (.slice (some ⟨bg, 0, none⟩) gl'.length cg) pl vp := by
  have h4 := (((h.setg (j := kk * 4) (x := a)).setg (j := kk * 4 + 1) (x := b)).setg (j := kk * 4 + 2) (x := d)).setg (j := kk * 4 + 3) (x := e)
  obtain ⟨gl', h1, h2⟩ := c4_of gl.length _ (by have := h4.rg.1; exact this) (((((ai_c4 gl).set (kk * 4) a).set (kk * 4 + 1) b).set (kk * 4 + 2) d).set (kk * 4 + 3) e)
  refine ⟨gl', h1, ?_⟩
  rw [h2, h1]
  exact h4
theorem ic_d1 {k : Nat} {W' : World} {e : TypeId} {cs : Array Value} {l : List Int} (hcs : cs.toList = ints l) (hk : k = l.length) (hm : k ≤ 100) (hc : c < W.heap.size) (h : Chg c (c + 1) (W.alloc (.cells cs e)).drew W') : IC W' (some ⟨W.heap.size, 0, none⟩) l :=
  ic_at (W := (W.alloc (.cells cs e)).drew) hcs hk hm (heap_alloc_last W _) hc h
theorem ic_d2a {k : Nat} {W' : World} {e : TypeId} {cs : Array Value} {o : Obj} {l : List Int} (hcs : cs.toList = ints l) (hk : k = l.length) (hm : k ≤ 100) (hc : c < W.heap.size) (h : Chg c (c + 1) ((W.alloc (.cells cs e)).alloc o).drew W') : IC W' (some ⟨W.heap.size, 0, none⟩) l :=
  ic_at (W := ((W.alloc (.cells cs e)).alloc o).drew) hcs hk hm ((heap_alloc_old _ _ (by simp)).trans (heap_alloc_last W _)) hc h
theorem ic_d2b {k : Nat} {W' : World} {e : TypeId} {cs : Array Value} {o : Obj} {l : List Int} (hcs : cs.toList = ints l) (hk : k = l.length) (hm : k ≤ 100) (hc : c < W.heap.size) (h : Chg c (c + 1) ((W.alloc o).alloc (.cells cs e)).drew W') : IC W' (some ⟨W.heap.size + 1, 0, none⟩) l :=
  ic_at (W := ((W.alloc o).alloc (.cells cs e)).drew) hcs hk hm (by show ((W.alloc o).alloc (.cells cs e)).heap[W.heap.size + 1]? = _; have := heap_alloc_last (W.alloc o) (.cells cs e); simpa using this) (by omega) h
theorem WB.sgy {gl : List D4} {bg cg kk : Nat} {y0 y1 : Int} (h : WB c n base g e4 e1 4 w W sz (c4 gl) gl.length (.slice (some ⟨bg, 0, none⟩) gl.length cg) pl vp) (hk : kk < gl.length) (hy : (gl[kk]!).1 = y0 ∧ (gl[kk]!).2.1 = y1) :
    W.cell? ⟨g, 1, none⟩ = some (.slice (some ⟨bg, 0, none⟩) gl.length cg) ∧ W.cell? ⟨bg, kk * 4, none⟩ = some (.int .i64 y0) ∧ W.cell? ⟨bg, kk * 4 + 1, none⟩ = some (.int .i64 y1) := by
  rw [← hy.1, ← hy.2]; exact h.sg hk
theorem WB.sgs {gl : List D4} {bg cg kk : Nat} {y0 y1 x y : Int} (h : WB c n base g e4 e1 4 w W sz (c4 gl) gl.length (.slice (some ⟨bg, 0, none⟩) gl.length cg) pl vp) (hk : kk < gl.length) (hy : (gl[kk]!).1 = y0 ∧ (gl[kk]!).2.1 = y1) :
    ((((W.setCell ⟨bg, kk * 4, none⟩ (.int .i64 y0)).setCell ⟨bg, kk * 4 + 1, none⟩ (.int .i64 y1)).setCell ⟨bg, kk * 4 + 2, none⟩ (.int .i64 x)).setCell ⟨bg, kk * 4 + 3, none⟩ (.int .i64 y)).cell? ⟨g, 1, none⟩ = some (.slice (some ⟨bg, 0, none⟩) gl.length cg) ∧
    ((((W.setCell ⟨bg, kk * 4, none⟩ (.int .i64 y0)).setCell ⟨bg, kk * 4 + 1, none⟩ (.int .i64 y1)).setCell ⟨bg, kk * 4 + 2, none⟩ (.int .i64 x)).setCell ⟨bg, kk * 4 + 3, none⟩ (.int .i64 y)).cell? ⟨bg, kk * 4, none⟩ = some (.int .i64 y0) ∧
    ((((W.setCell ⟨bg, kk * 4, none⟩ (.int .i64 y0)).setCell ⟨bg, kk * 4 + 1, none⟩ (.int .i64 y1)).setCell ⟨bg, kk * 4 + 2, none⟩ (.int .i64 x)).setCell ⟨bg, kk * 4 + 3, none⟩ (.int .i64 y)).cell? ⟨bg, kk * 4 + 1, none⟩ = some (.int .i64 y1) := by
  obtain ⟨s1, s2, s3⟩ := h.sgy hk hy
  have hne : bg ≠ g := fun e => h.gg (by rw [e]; rfl)
  refine ⟨?_, ?_, ?_⟩
  · rw [set_ne _ _ hne, set_ne _ _ hne, set_ne _ _ hne, set_ne _ _ hne]; exact s1
  · rw [cell_setO _ _ (by omega), cell_setO _ _ (by omega), cell_setO _ _ (by omega)]
    exact cell_setS _ _ s2
  · rw [cell_setO _ _ (by omega), cell_setO _ _ (by omega)]
    exact cell_setS _ _ ((cell_setO _ _ (by omega)).trans s3)
theorem WB.fp {bp cp j : Nat} (h : WB c n base g e4 e1 s4 w W sz xg ng vg pl (.slice (some ⟨bp, 0, none⟩) pl.length cp)) (hj : j < pl.length) : (∃ u, W.cell? ⟨bp, j, none⟩ = some u) ∧ W.frozen? ⟨bp, j, none⟩ = false ∧ bp < W.heap.size ∧ bp ≠ g := by
  have := own_cell h.rp j (by omega)
  exact ⟨this.1, this.2, Own.block_lt h.rp rfl, fun e => h.gp (by rw [e]; rfl)⟩
theorem WB.sps {bp cp j : Nat} {x : Int} (h : WB c n base g e4 e1 s4 w W sz xg ng vg pl (.slice (some ⟨bp, 0, none⟩) pl.length cp)) : (W.setCell ⟨bp, j, none⟩ (.int .i64 x)).cell? ⟨g, 2, none⟩ = some (.slice (some ⟨bp, 0, none⟩) pl.length cp) :=
  (set_ne _ _ (fun e => h.gp (by rw [e]; rfl))).trans h.c2
theorem WB.four {gl : List D4} {bg cg : Nat} (h : WB c n base g e4 e1 4 w W sz (c4 gl) gl.length (.slice (some ⟨bg, 0, none⟩) gl.length cg) pl vp) (hk : 0 < gl.length) :
    ∃ y0 y1 y2 y3 : Int, W.cell? ⟨bg, 0, none⟩ = some (.int .i64 y0) ∧ W.cell? ⟨bg, 1, none⟩ = some (.int .i64 y1) ∧ W.cell? ⟨bg, 2, none⟩ = some (.int .i64 y2) ∧ W.cell? ⟨bg, 3, none⟩ = some (.int .i64 y3) := by
  obtain ⟨h0, h1, h2, h3⟩ := get_c4 gl 0 hk
  simp only [Nat.zero_mul, Nat.zero_add] at h0 h1 h2 h3
  exact ⟨_, _, _, _, by rw [h.rg.cellAt _ (by omega), h0], by rw [h.rg.cellAt _ (by omega), h1], by rw [h.rg.cellAt _ (by omega), h2], by rw [h.rg.cellAt _ (by omega), h3]⟩
end Go.KD

namespace Go.Proofs.Ytmilpahggceemaa
open Go.RowKit Go.KD
attribute [local go_sem] later_cell later_frozen
set_option maxRecDepth 100000 in
set_option maxHeartbeats 1000000 in
theorem compareGates_c (a b c d x y z u : Int) (w : World) : Calls Try.prog 153 #[.agg #[.int .i64 a, .int .i64 b, .int .i64 c, .int .i64 d], .agg #[.int .i64 x, .int .i64 y, .int .i64 z, .int .i64 u]] w fun e w' =>
   e = .returned (.int .i64 (cmp4 (a, b, c, d) (x, y, z, u))) ∧ Below w.heap.size w w' := by
  go_enter Try.func153, Try.ntmps153
  go_wp2
  refine wp_region_tail 20 (by kernel_rfl) (by kernel_rfl) ?_
  simp only [List.take_succ_cons, List.take_zero, List.drop_succ_cons, List.drop_zero]
  repeat (first | still_step | still_call (compare_c _ _ _))
  refine wpStill_nil ?_
  go_wp2_with fail
  refine (or_c _ _ _ [cmpI a x, cmpI b y, cmpI c z, cmpI d u] _ rfl ((ic_lit _ _ _ _ _ (by simp) rfl).later (Below.refl _ _).drew) (by simp)).mono ?_
  rintro e w' ⟨rfl, rfl⟩
  go_wp2_with fail
  go_ret
  exact ⟨ret_int rfl, by (repeat (first | exact Below.refl _ _ | apply Below.drew | apply below_drewN | (refine Below.setCell ?_ (by first | omega | (simp; done) | (simp; omega) | (dsimp only; omega)) _) | (refine Below.alloc ?_ (by first | omega | (simp; done) | (simp; omega) | (dsimp only; omega)) _)))⟩
set_option maxRecDepth 100000 in
set_option maxHeartbeats 1000000 in
theorem compareDoors_c (a b c x y z : Int) (w : World) : Calls Try.prog 293 #[.agg #[.int .i64 a, .int .i64 b, .int .i64 c], .agg #[.int .i64 x, .int .i64 y, .int .i64 z]] w fun e w' =>
   e = .returned (.int .i64 (cmp3 (a, b, c) (x, y, z))) ∧ Below w.heap.size w w' := by
  go_enter Try.func293, Try.ntmps293
  go_wp2
  refine wp_region_tail 15 (by kernel_rfl) (by kernel_rfl) ?_
  simp only [List.take_succ_cons, List.take_zero, List.drop_succ_cons, List.drop_zero]
  repeat (first | still_step | still_call (compare_c _ _ _))
  refine wpStill_nil ?_
  go_wp2_with fail
  refine (or_c _ _ _ [cmpI a x, cmpI b y, cmpI c z] _ rfl ((ic_lit _ _ _ _ _ (by simp) rfl).later (Below.refl _ _).drew) (by simp)).mono ?_
  rintro e w' ⟨rfl, rfl⟩
  go_wp2_with fail
  go_ret
  exact ⟨ret_int rfl, by (repeat (first | exact Below.refl _ _ | apply Below.drew | apply below_drewN | (refine Below.setCell ?_ (by first | omega | (simp; done) | (simp; omega) | (dsimp only; omega)) _) | (refine Below.alloc ?_ (by first | omega | (simp; done) | (simp; omega) | (dsimp only; omega)) _)))⟩
/-- The first place at which p is so, or -1. -/
theorem indexFunc_c (F : FuncId) (fn : Func) (hf1 : Try.prog.funcs[F]? = some fn) (hf2 : (fn.name == "runtime.NumGoroutine") = false) (hf3 : fn.body.isNone = false) (caps : Array Value) (p : Int → Bool) (a : Option Addr) (cap n : Nat) (l : List Int) (w : World) (hn : n = l.length) (hA : IC w a l) (hl : n ≤ 1048576)
    (hp : ∀ k x, k < l.length → l[k]! = x → ∀ w', Below w.heap.size w w' → Calls Try.prog F (#[.int .i64 x] ++ caps) w' fun e w'' => e = .returned (.bool (p x)) ∧ Below w'.heap.size w' w'') :
    Calls Try.prog 285 #[.slice a n cap, .func (.func F) #[] caps] w fun e w' => e = .returned (.int .i64 (idxP p l)) ∧ Below w.heap.size w w' := by
  have HN := Lib.hid hn
  have HP := Lib.hid hp
  have hcf := run_callFunc hf1 hf2 hf3
  clear hn hp hf1 hf2 hf3
  go_enter Try.func285, Try.ntmps285
  go_wp2
  go_loopw [5, 8] (fun _ i wr => ∃ k : Nat, k ≤ n ∧ i = .int .i64 k ∧ Below w.heap.size w wr ∧ Hid (∀ j, j < k → p l[j]! = false)) (fun _ i _ => n - (intOf i).toNat)
  case atStart => exact ⟨0, Nat.zero_le _, rfl, Below.refl _ _, fun j hj => by omega⟩
  case round =>
    obtain ⟨k, hk, rfl, hb, HK⟩ := hrel
    by_cases hlt : k < n
    · have hlt' : k < l.length := by rw [← HN.out]; exact hlt
      obtain ⟨b, off, x, rfl, HX, hbs, e0⟩ := (hA.later hb).at k hlt'
      cases hpx : p x
      · go_wp2_with fail
        refine (HP.out k x hlt' HX.out _ hb).mono ?_
        rintro e w1 ⟨rfl, hb1⟩
        rw [hpx]
        go_wp2_with fail
        go_roundw
        case rel => exact ⟨k+1, by omega, by go_num, below_then hb hb1, fun j hj => by
          rcases Nat.lt_or_ge j k with h | h
          · exact HK.out j h
          · obtain rfl : j = k := by omega
            rw [HX.out]; exact hpx⟩
        case measure => simp [intOf]; omega
      · go_wp2_with fail
        refine (HP.out k x hlt' HX.out _ hb).mono ?_
        rintro e w1 ⟨rfl, hb1⟩
        rw [hpx]
        go_wp2_with fail
        go_ret
        exact ⟨ret_int (by rw [idxP_at (by omega) HK.out (by rw [HX.out]; exact hpx)]), below_then hb hb1⟩
    · go_wp2
      go_ret
      exact ⟨ret_int (by rw [idxP_none (fun j hj => HK.out j (by have := HN.out; omega))]), hb⟩
theorem containsFunc_c (F : FuncId) (fn : Func) (hf1 : Try.prog.funcs[F]? = some fn) (hf2 : (fn.name == "runtime.NumGoroutine") = false) (hf3 : fn.body.isNone = false) (caps : Array Value) (p : Int → Bool) (a : Option Addr) (cap n : Nat) (l : List Int) (w : World) (hn : n = l.length) (hA : IC w a l) (hl : n ≤ 1048576)
    (hp : ∀ k x, k < l.length → l[k]! = x → ∀ w', Below w.heap.size w w' → Calls Try.prog F (#[.int .i64 x] ++ caps) w' fun e w'' => e = .returned (.bool (p x)) ∧ Below w'.heap.size w' w'') :
    Calls Try.prog 255 #[.slice a n cap, .func (.func F) #[] caps] w fun e w' => e = .returned (.bool (anyP p l)) ∧ Below w.heap.size w w' := by
  have HN := Lib.hid hn
  have HP := Lib.hid hp
  clear hn hp
  go_enter Try.func255, Try.ntmps255
  go_wp2_with (go_at_call 285; refine (indexFunc_c F fn hf1 hf2 hf3 caps p _ _ _ l _ HN.out hA hl HP.out).mono ?_; rintro e w1 ⟨rfl, hb1⟩)
  go_ret
  exact ⟨ret_bool (by symm; exact anyP_idx p l), hb1⟩
end Go.Proofs.Ytmilpahggceemaa
