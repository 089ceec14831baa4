/- Contracts of counting bits. -/
import Derived.Test.YtmilpahggceemaaKdWorks
import Derived.Test.YtmilpahggceemaaKdMore
set_option linter.unusedVariables false
set_option linter.unusedSimpArgs false
namespace Go.Proofs.Ytmilpahggceemaa
open Go.RowKit Go.KD
attribute [local go_sem] later_cell later_frozen
theorem onesCount64_c (x : Nat) (hx : x < 64) (w : World) : Calls Try.prog 306 #[.int .u64 x] w fun e w' => e = .returned (.int .i64 (popc x)) ∧ w = w' := by
  go_enter Try.func306, Try.ntmps306
  go_wp2
  go_ret
  refine ⟨ret_int ?_, rfl⟩
  clear w
  revert x
  decide +kernel
theorem onesCount_c (x : Nat) (hx : x < 64) (w : World) : Calls Try.prog 270 #[.int .u64 x] w fun e w' => e = .returned (.int .i64 (popc x)) ∧ w = w' := by
  go_enter Try.func270, Try.ntmps270
  go_wp2_with (go_at_call 306; refine (onesCount64_c x hx _).mono ?_; rintro e w1 ⟨rfl, rfl⟩)
  go_ret
  exact ⟨rfl, rfl⟩
theorem odd_c (x : Nat) (hx : x < 64) (w : World) : Calls Try.prog 151 #[.int .i64 x] w fun e w' => e = .returned (.int .i64 (popc x % 2)) ∧ w = w' := by
  have h0 : (0 : Int) ≤ popc x := by unfold popc; omega
  have h1 : popc x ≤ 12 := popc_le x
  go_enter Try.func151, Try.ntmps151
  go_wp2_with (go_at_call 270; refine (onesCount_c x hx _).mono ?_; rintro e w1 ⟨rfl, rfl⟩)
  go_ret
  exact ⟨rfl, rfl⟩
theorem l2Many_c (x : Nat) (hx : x < 64) (w : World) : Calls Try.prog 263 #[.int .i64 x] w fun e w' => e = .returned (.int .i64 (popc x)) ∧ w = w' := by
  go_enter Try.func263, Try.ntmps263
  go_wp2
  go_loop [0, 3] (fun s c => ∃ n : Nat, n < 64 ∧ s = .int .i64 n ∧ ∃ k : Nat, k ≤ 6 ∧ c = .int .i64 k ∧ Hid (popN x = k + popN n)) (fun s _ => (intOf s).toNat)
  case atStart => exact ⟨x, hx, rfl, 0, by omega, rfl, by show _ = _; omega⟩
  case round =>
    obtain ⟨n, hn, rfl, k, hk, rfl, HK⟩ := hrel
    by_cases h0 : 0 < n
    · have e1 : bits BinOp.and IntKind.i64 (n : Int) 1 = ((n % 2 : Nat) : Int) := and_one n hn
      have hm : n % 2 < 2 := Nat.mod_lt _ (by omega)
      have hp := pop_half n hn
      have HP := Lib.hid hp
      have hb := pop_le6 x hx
      clear hp
      go_wp2
      go_round
      case rel => exact ⟨n / 2, by omega, by first | go_num | (congr 1; omega), k + n % 2, by have := HK.out; have := HP.out; omega, by first | go_num | (congr 1; omega), by have := HK.out; have := HP.out; show _ = _; omega⟩
      case measure => simp [intOf]; omega
    · obtain rfl : n = 0 := by omega
      go_wp2
      go_ret
      exact ⟨ret_int (by have := HK.out; rw [popN_zero] at this; unfold popc; omega), rfl⟩
theorem l8Odd_c (a b x : Nat) (hx : x < 64) (hab : bits BinOp.and IntKind.i64 (a : Int) (b : Int) = (x : Int)) (w : World) : Calls Try.prog 156 #[.int .i64 a, .int .i64 b] w fun e w' => e = .returned (.int .i64 (popc x % 2)) ∧ w = w' := by
  have H : Hid (bits BinOp.and IntKind.i64 (popc x) 1 = popc x % 2) := by
    have := and_one (popN x) (by have := popN_le x; omega)
    show _ = _
    unfold popc; rw [this]; omega
  go_enter Try.func156, Try.ntmps156
  go_wp2_with (go_at_call 263; refine (l2Many_c x hx _).mono ?_; rintro e w1 ⟨rfl, rfl⟩)
  go_ret
  exact ⟨ret_int H.out, rfl⟩
end Go.Proofs.Ytmilpahggceemaa
