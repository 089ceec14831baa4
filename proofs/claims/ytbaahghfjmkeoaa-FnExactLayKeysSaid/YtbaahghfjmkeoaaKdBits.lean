/- Contracts of counting bits. -/
import Derived.Test.YtbaahghfjmkeoaaKdWorks
import Derived.Test.YtbaahghfjmkeoaaKdMore
set_option linter.unusedVariables false
set_option linter.unusedSimpArgs false
namespace Go.Proofs.Ytbaahghfjmkeoaa
open Go.RowKit Go.KD
attribute [local go_sem] later_cell later_frozen
theorem l2Many_c (x : Nat) (hx : x < 64) (w : World) : Calls Try.prog 127 #[.int .i64 x] w fun e w' => e = .returned (.int .i64 (popc x)) ∧ w = w' := by
  go_enter Try.func127, Try.ntmps127
  go_wp2
  go_loop [0, 3] (fun s c => ∃ n : Nat, n < 64 ∧ s = .int .i64 n ∧ ∃ k : Nat, k ≤ 6 ∧ c = .int .i64 k ∧ Hid (popN x = k + popN n)) (fun s _ => (intOf s).toNat)
  case atStart => exact ⟨x, hx, rfl, 0, by omega, rfl, by show _ = _; omega⟩
  case round =>
    obtain ⟨n, hn, rfl, k, hk, rfl, HK⟩ := hrel
    by_cases h0 : 0 < n
    · have e1 : bits BinOp.and IntKind.i64 (n : Int) 1 = ((n % 2 : Nat) : Int) := and_one n hn
      have hm : n % 2 < 2 := Nat.mod_lt _ (by omega)
      have hp := pop_half n hn
      have HP := Lib.hid hp
      have hb := pop_le6 x hx
      clear hp
      go_wp2
      go_round
      case rel => exact ⟨n / 2, by omega, by first | go_num | (congr 1; omega), k + n % 2, by have := HK.out; have := HP.out; omega, by first | go_num | (congr 1; omega), by have := HK.out; have := HP.out; show _ = _; omega⟩
      case measure => simp [intOf]; omega
    · obtain rfl : n = 0 := by omega
      go_wp2
      go_ret
      exact ⟨ret_int (by have := HK.out; rw [popN_zero] at this; unfold popc; omega), rfl⟩
