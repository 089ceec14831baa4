/- Contracts of ascending, l1Rising, l5Code, l5Nodes, l5List, LargestEntrySet. -/
import Derived.Test.YtldogbahbjompaaKdOrd3
set_option linter.unusedVariables false
set_option linter.unusedSimpArgs false
namespace Go.KD
open Go.RowKit
noncomputable def ascP (m : Mz) (l : List Int) : Nat × Bool := if risesB m l then (codeL l, true) else (0, false)
noncomputable def pLargestEntrySet (m : Mz) (l : List Int) : List Int × Bool := if mazeB m && risesB m l && (codeL l).testBit 0 then (mem (largN m (codeL l)), true) else ([], false)
theorem pLargestEntrySet_len (m : Mz) (l : List Int) : (pLargestEntrySet m l).1.length ≤ 1000000 := by
  unfold pLargestEntrySet
  split
  · have := mem_len40 (largN m (codeL l)); simp only; omega
  · simp
theorem codeK_in {m : Mz} {l : List Int} (k : Nat) (hk : k ≤ l.length) (h : ∀ j, j < k → riseB m l j = true) : InM m (codeK l k) := by
  intro i hi
  rw [codeK_bit l i k hk, List.any_eq_true] at hi
  obtain ⟨x, hx, h1⟩ := hi
  obtain ⟨j, hj, rfl⟩ := List.mem_iff_getElem.1 hx
  simp only [List.length_take] at hj
  have := inB_true.1 (riseB_in (h j (by omega)))
  rw [getElem!_pos l j (by omega)] at this
  rw [List.getElem_take] at h1
  have : l[j].toNat = i := by simpa using h1
  omega
theorem codeL_has {m : Mz} {l : List Int} (h : risesB m l = true) : hasI l 0 = (codeL l).testBit 0 := (codeL_zero h).symm
theorem riseB_def {m : Mz} {l : List Int} {k : Nat} {y : Int} (h : l[k]! = y) : riseB m l k = (inB y 0 (m.size - 1) && (k == 0 || decide (l[k-1]! < y))) := by unfold riseB; rw [h]
end Go.KD
namespace Go.Proofs.Ytldogbahbjompaa
open Go.RowKit Go.KD
attribute [local go_sem] later_cell later_frozen
set_option maxRecDepth 100000 in
set_option maxHeartbeats 1000000 in
theorem l5Nodes_c (x : Nat) (hx : x < 4096) (w : World) : Calls Try.prog 80 #[.int .i64 x] w fun e w' =>
    ∃ v, e = .returned v ∧ w'.ownsRow w.heap.size 3 1 v (mem x).length (ints (mem x)) ∧ Below w.heap.size w w' := by
  obtain ⟨i0, hi, hz0, hz1, hz2⟩ := info_parts infoI
  have HM : Hid (memK x 12 = mem x) := memK_all (s := 12) (by omega) fun i hi => bit_lt (n := 12) hx hi
  go_enter Try.func80, Try.ntmps80
  go_wp2
  go_loopw [3, 4] (fun v c wr => ∃ k : Nat, k ≤ 12 ∧ c = .int .i64 k ∧ Below w.heap.size w wr ∧ Hid (wr.ownsRow w.heap.size 3 1 v (memK x k).length (ints (memK x k)))) (fun _ c _ => 12 - (intOf c).toNat)
  case atStart => exact ⟨0, by omega, rfl, (Below.refl _ _).alloc (Nat.le_refl _) _, World.ownsRow_lit _ _ _ (Nat.le_refl _) (by unfold maxLen; omega) (by rfl)⟩
  case round =>
    obtain ⟨k, hk, rfl, hb, HO⟩ := hrel
    have hk0 : (0 : Int) ≤ (k : Int) := by omega
    have hk1 : (k : Int) ≤ 63 := by omega
    by_cases h6 : k < 12
    · obtain ⟨y, HY, ey⟩ := shr_at x k
      have hy : y < 1099511627776 := by
        have := HY.out; rw [Nat.shiftRight_eq_div_pow] at *; have := Nat.div_le_self x (2 ^ k); omega
      have HA := Lib.hid (and1 hy)
      have HBB := Lib.hid (bit_shr x k)
      clear hy
      cases hbit : x.testBit k
      · have ea : bits .and .i64 (y : Int) 1 = 0 := by rw [HA.out, HY.out, HBB.out, hbit]; rfl
        have HBI := Lib.hid hbit; clear hbit
        go_wp2
        go_roundw
        case rel => exact ⟨k + 1, by omega, by go_num, hb, by rw [memK_no HBI.out]; exact HO⟩
        case measure => simp [intOf]; omega
      · have ea : bits .and .i64 (y : Int) 1 = 1 := by rw [HA.out, HY.out, HBB.out, hbit]; rfl
        have HBI := Lib.hid hbit; clear hbit
        have hz := hb.size
        have hlen := memK_len x k
        go_wp2_with (at_builtin; refine wpList_append_own _ rfl _ _ 23 rfl w.heap.size 3 i0 (.int .i64 0) 1 8 Try.underlying23 hi hz0 hz1 hz2 rfl (by decide) _ _ _ rfl (HO.out.alloc _) ⟨wr.heap.size, 0, none⟩ 1 1 [.int .i64 k] rfl rfl ?_ ?_ ?_ ?_ ?_ ?_; (exact cell_one_new _ _ _); (simp [Value.oneCell']); (unfold maxLen; omega); omega; (simp; omega); intro v' w1 hown' hgrow _)
        go_roundw
        case rel => exact ⟨k + 1, by omega, by go_num, (hb.alloc hz _).grown hgrow (by simp; omega) (fun g hg => own_block_lo HO.out hg), by rw [memK_yes HBI.out, ints_snoc, List.length_append]; exact hown'⟩
        case measure => simp [intOf]; omega
    · obtain rfl : k = 12 := by omega
      go_wp2
      go_ret
      exact ⟨_, rfl, by rw [← HM.out]; exact HO.out, hb⟩
