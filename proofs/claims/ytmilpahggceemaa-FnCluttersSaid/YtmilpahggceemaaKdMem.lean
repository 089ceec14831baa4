/- Contracts of the lists of a set. -/
import Derived.Test.YtmilpahggceemaaKdBits
import Derived.Test.YtmilpahggceemaaKdNum
set_option linter.unusedVariables false
set_option linter.unusedSimpArgs false
namespace Go.Proofs.Ytmilpahggceemaa
open Go.RowKit Go.KD
attribute [local go_sem] later_cell later_frozen
set_option maxRecDepth 100000 in
set_option maxHeartbeats 1000000 in
theorem members_c (x : Nat) (hx : x < 1073741824) (w : World) : Calls Try.prog 192 #[.int .i64 x] w fun e w' =>
    ∃ v, e = .returned v ∧ w'.ownsRow w.heap.size 3 1 v (mem x).length (ints (mem x)) ∧ Below w.heap.size w w' := by
  have HX := Lib.hid hx; clear hx
  obtain ⟨i0, hi, hz0, hz1, hz2⟩ := info_parts infoI
  go_enter Try.func192, Try.ntmps192
  go_wp2
  go_loopw [3, 4] (fun v c wr => ∃ k : Nat, k ≤ 40 ∧ c = .int .i64 k ∧ Below w.heap.size w wr ∧ Hid (wr.ownsRow w.heap.size 3 1 v (memK x k).length (ints (memK x k)))) (fun _ c _ => 40 - (intOf c).toNat)
  case atStart => exact ⟨0, by omega, rfl, (Below.refl _ _).alloc (Nat.le_refl _) _, World.ownsRow_lit _ _ _ (Nat.le_refl _) (by unfold maxLen; omega) (by rfl)⟩
  case round =>
    obtain ⟨k, hk, rfl, hb, HO⟩ := hrel
    obtain ⟨y, HY, ey⟩ := shr_at x k
    have hy : y < 1099511627776 := by
      have := HY.out; have := HX.out; rw [Nat.shiftRight_eq_div_pow] at *; have := Nat.div_le_self x (2 ^ k); omega
    have HA := Lib.hid (and1 hy)
    have HB := bit_shr x k
    rw [← HY.out] at HB
    have HBB := Lib.hid HB
    clear hy HB
    have hk0 : (0 : Int) ≤ (k : Int) := by omega
    have hk1 : (k : Int) ≤ 63 := by omega
    rcases Nat.eq_zero_or_pos y with h0 | h0
    · have h0' : ¬ ((0 : Int) < (y : Int)) := by omega
      have H0 := Lib.hid h0; clear h0
      go_wp2
      go_ret
      refine ⟨_, rfl, ?_, hb⟩
      have := HO.out
      rw [mem_eq]
      rwa [show (40 : Nat) = k + (40 - k) from by omega, memK_end (by rw [← HY.out]; exact H0.out)]
    · have hlt : k < 30 := by
        rcases Nat.lt_or_ge k 30 with h | h
        · exact h
        · have := HY.out; have hx := HX.out
          rw [Nat.shiftRight_eq_div_pow, Nat.div_eq_of_lt (Nat.lt_of_lt_of_le hx (Nat.le_trans (by decide : 1073741824 ≤ 2 ^ 30) (Nat.pow_le_pow_right (by decide) h)))] at this
          omega
      cases hbit : x.testBit k
      · have ea : bits .and .i64 (y : Int) 1 = 0 := by rw [HA.out, HBB.out, hbit]; rfl
        have HBI := Lib.hid hbit; clear hbit
        go_wp2
        go_roundw
        case rel => exact ⟨k + 1, by omega, by go_num, hb, by rw [memK_no HBI.out]; exact HO⟩
        case measure => simp [intOf]; omega
      · have ea : bits .and .i64 (y : Int) 1 = 1 := by rw [HA.out, HBB.out, hbit]; rfl
        have HBI := Lib.hid hbit; clear hbit
        have hz := hb.size
        go_wp2_with (at_builtin; refine wpList_append_own _ rfl _ _ 24 rfl w.heap.size 3 i0 (.int .i64 0) 1 8 Try.underlying24 hi hz0 hz1 hz2 rfl (by decide) _ _ _ rfl (HO.out.alloc _) ⟨wr.heap.size, 0, none⟩ 1 1 [.int .i64 k] rfl rfl ?_ ?_ ?_ ?_ ?_ ?_; (exact cell_one_new _ _ _); (simp [Value.oneCell']); (have := memK_len x k; unfold maxLen; omega); (have := memK_len x k; omega); (simp; omega); intro v' w1 hown' hgrow _)
        go_roundw
        case rel => exact ⟨k + 1, by omega, by go_num, (hb.alloc hz _).grown hgrow (by simp; omega) (fun g hg => own_block_lo HO.out hg), by rw [memK_yes HBI.out, ints_snoc, List.length_append]; exact hown'⟩
        case measure => simp [intOf]; omega
end Go.Proofs.Ytmilpahggceemaa
