/- Small functions of the laws over bytes: size of the bytes, equality of lists. -/
import Derived.Test.YtmilpahggceemaaKdLaws2
import Derived.Test.YtmilpahggceemaaKdCur
import Derived.Test.YtmilpahggceemaaKdDrw1
set_option linter.unusedVariables false
set_option linter.unusedSimpArgs false
namespace Go.KD
open Go.RowKit
/-- A list that a draw of a law gives. -/
def DListP (k : Nat) (w : World) (e : Ending) (w' : World) : Prop := ∃ a c, ∃ L : List Int, e = .returned (.slice a L.length c) ∧ IC w' a L ∧ L.length ≤ k ∧ (∀ x ∈ L, wfI x) ∧ Below w.heap.size w w'
theorem cu_start {w : World} {a : Option Addr} {n cap : Nat} {T : TypeId} (hb : BC w a n) (hn : n ≤ 65536) : Cu w.heap.size 0 (w.alloc (.cells #[.slice a n cap, .int .i64 0, .int .u64 0] T)) := by
  refine ⟨⟨a, n, cap, 0, 0, ?_, ?_, ?_, Nat.le_refl _, hn, fun k hk => ?_⟩, fun o ho => ?_, by simp⟩
  · simp [go_sem]
  · simp [go_sem]
  · simp [go_sem]
  · obtain ⟨b, off, x, e1, e2, e3, e4⟩ := hb k hk
    exact ⟨b, off, x, e1, e2, e3, by rw [World.cell?_alloc_lt _ _ _ e2]; exact e4⟩
  · simp [go_sem]
theorem CuW.start {w w' : World} {o : Obj} {n : Nat} (h : CuW w.heap.size n (w.alloc o) w') : Below w.heap.size w w' := by
  have h1 : Below w.heap.size (w.alloc o) w' := h.ch.below (Nat.le_refl _) (by simp)
  exact ((Below.refl _ _).alloc (Nat.le_refl _) o).trans h1
end Go.KD
namespace Go.Proofs.Ytmilpahggceemaa
open Go.RowKit Go.KD
attribute [local go_sem] later_cell later_frozen
set_option maxHeartbeats 1000000 in
theorem rInts_c (a a' : Option Addr) (cap cap' : Nat) (l m : List Int) (w : World) (hA : IC w a l) (hA' : IC w a' m) (hl : l.length ≤ 1048576) (hl' : m.length ≤ 1048576) : Calls Try.prog 16 #[.slice a l.length cap, .slice a' m.length cap'] w fun e w' =>
   e = .returned (.bool (decide (l = m))) ∧ Below w.heap.size w w' := by
  by_cases hlen : l.length = m.length
  · have HL := Lib.hid hlen
    have hq : ((l.length : Int) != (m.length : Int)) = false := by simp [hlen]
    clear hlen
    go_enter Try.func16, Try.ntmps16
    go_wp2
    clear hq
    go_loopw [5] (fun i wr => ∃ k : Nat, k ≤ l.length ∧ i = .int .i64 k ∧ Below w.heap.size w wr ∧ Hid (l.take k = m.take k)) (fun i _ => l.length - (intOf i).toNat)
    case atStart => exact ⟨0, Nat.zero_le _, rfl, Below.refl _ _, rfl⟩
    case round =>
      obtain ⟨k, hk, rfl, hb, HEQ⟩ := hrel
      by_cases hlt : k < l.length
      · have hlt' : k < m.length := by have := HL.out; omega
        obtain ⟨b, off, x, rfl, HX, hbs, c0⟩ := (hA.later hb).at k hlt
        obtain ⟨b', off', x', rfl, HY, hbs', d0⟩ := (hA'.later hb).at k hlt'
        have hsz := hb.size
        go_wp2
        go_quiet (fail)
        go_wp2
        · go_ret
          exact ⟨ret_bool (by symm; rw [decide_eq_false_iff_not]; rintro rfl; have := HX.out; rw [HY.out] at this; simp_all), by first | exact hb.trans (hb1.mono hsz) | (apply below_drewN; exact hb)⟩
        · go_roundw
          case rel => exact ⟨k+1, by omega, by go_num, by first | exact hb.trans (hb1.mono hsz) | (apply below_drewN; exact hb), take_succ_eq hlt hlt' HEQ.out (by rw [HX.out, HY.out]; simp_all)⟩
          case measure => simp [intOf]; omega
      · go_wp2
        go_ret
        exact ⟨ret_bool (by symm; rw [decide_eq_true_iff]; have := HEQ.out; rwa [List.take_of_length_le (by omega), List.take_of_length_le (by have := HL.out; omega)] at this), hb⟩
  · have hq : ((l.length : Int) != (m.length : Int)) = true := by simp; omega
    go_enter Try.func16, Try.ntmps16
    go_wp2
    go_ret
    exact ⟨ret_bool (by symm; rw [decide_eq_false_iff_not]; rintro rfl; simp at hlen), Below.refl _ _⟩
set_option maxHeartbeats 1000000 in
theorem vInts_c (a a' : Option Addr) (cap cap' : Nat) (l m : List Int) (w : World) (hA : IC w a l) (hA' : IC w a' m) (hl : l.length ≤ 1048576) (hl' : m.length ≤ 1048576) : Calls Try.prog 81 #[.slice a l.length cap, .slice a' m.length cap'] w fun e w' =>
   e = .returned (.bool (decide (l = m))) ∧ Below w.heap.size w w' := by
  by_cases hlen : l.length = m.length
  · have HL := Lib.hid hlen
    have hq : ((l.length : Int) != (m.length : Int)) = false := by simp [hlen]
    clear hlen
    go_enter Try.func81, Try.ntmps81
    go_wp2
    clear hq
    go_loopw [5] (fun i wr => ∃ k : Nat, k ≤ l.length ∧ i = .int .i64 k ∧ Below w.heap.size w wr ∧ Hid (l.take k = m.take k)) (fun i _ => l.length - (intOf i).toNat)
    case atStart => exact ⟨0, Nat.zero_le _, rfl, Below.refl _ _, rfl⟩
    case round =>
      obtain ⟨k, hk, rfl, hb, HEQ⟩ := hrel
      by_cases hlt : k < l.length
      · have hlt' : k < m.length := by have := HL.out; omega
        obtain ⟨b, off, x, rfl, HX, hbs, c0⟩ := (hA.later hb).at k hlt
        obtain ⟨b', off', x', rfl, HY, hbs', d0⟩ := (hA'.later hb).at k hlt'
        have hsz := hb.size
        go_wp2
        go_quiet (fail)
        go_wp2
        · go_ret
          exact ⟨ret_bool (by symm; rw [decide_eq_false_iff_not]; rintro rfl; have := HX.out; rw [HY.out] at this; simp_all), by first | exact hb.trans (hb1.mono hsz) | (apply below_drewN; exact hb)⟩
        · go_roundw
          case rel => exact ⟨k+1, by omega, by go_num, by first | exact hb.trans (hb1.mono hsz) | (apply below_drewN; exact hb), take_succ_eq hlt hlt' HEQ.out (by rw [HX.out, HY.out]; simp_all)⟩
          case measure => simp [intOf]; omega
      · go_wp2
        go_ret
        exact ⟨ret_bool (by symm; rw [decide_eq_true_iff]; have := HEQ.out; rwa [List.take_of_length_le (by omega), List.take_of_length_le (by have := HL.out; omega)] at this), hb⟩
  · have hq : ((l.length : Int) != (m.length : Int)) = true := by simp; omega
    go_enter Try.func81, Try.ntmps81
    go_wp2
    go_ret
    exact ⟨ret_bool (by symm; rw [decide_eq_false_iff_not]; rintro rfl; simp at hlen), Below.refl _ _⟩
theorem rBig_c (a : Option Addr) (n cap : Nat) (w : World) (hn : n ≤ maxLen) : Calls Try.prog 11 #[.slice a n cap] w fun e w' => e = .returned (.bool (decide (65536 < n))) ∧ w = w' := by
  unfold maxLen at hn
  go_enter Try.func11, Try.ntmps11
  go_wp2
  go_ret
  exact ⟨ret_bool (by simp; omega), rfl⟩
theorem vBig_c (a : Option Addr) (n cap : Nat) (w : World) (hn : n ≤ maxLen) : Calls Try.prog 63 #[.slice a n cap] w fun e w' => e = .returned (.bool (decide (65536 < n))) ∧ w = w' := by
  unfold maxLen at hn
  go_enter Try.func63, Try.ntmps63
  go_wp2
  go_ret
  exact ⟨ret_bool (by simp; omega), rfl⟩
end Go.Proofs.Ytmilpahggceemaa
