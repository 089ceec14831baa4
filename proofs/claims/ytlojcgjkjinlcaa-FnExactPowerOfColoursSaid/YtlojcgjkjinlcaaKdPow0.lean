/- The powers of colours: two ways to count. -/
import Derived.Test.YtlojcgjkjinlcaaKdWinning
set_option linter.unusedVariables false
set_option linter.unusedSimpArgs false
namespace Go.KD
open Go.RowKit
/-- Sets with c that win, and do not without it. -/
def powI (W : Nat → Bool) (c : Nat) (s : Nat) : Bool := s.testBit c && W s && !W (andn s (2 ^ c))
/-- Sets without c that do not win, and do with it. -/
def powS (W : Nat → Bool) (c : Nat) (s : Nat) : Bool := !s.testBit c && !W s && W (s + 2 ^ c)
theorem flip_perm : ∀ c, c < 6 → ((List.range 64).map fun s => s ^^^ 2 ^ c).isPerm (List.range 64) = true := by decide +kernel
theorem flip_in : ∀ c, c < 6 → ∀ s, s < 64 → s ^^^ 2 ^ c < 64 ∧ (s ^^^ 2 ^ c).testBit c = !s.testBit c ∧ (s.testBit c = false → s ^^^ 2 ^ c = s + 2 ^ c ∧ andn (s ^^^ 2 ^ c) (2 ^ c) = s) := by decide +kernel
theorem pow_eq (W : Nat → Bool) (c : Nat) (hc : c < 6) : ((List.range 64).filter (powI W c)).length = ((List.range 64).filter (powS W c)).length := by
  rw [← List.countP_eq_length_filter, ← List.countP_eq_length_filter]
  rw [← (List.isPerm_iff.1 (flip_perm c hc)).countP_eq (powI W c), List.countP_map]
  refine List.countP_congr fun s hs => ?_
  obtain ⟨h1, h2, h3⟩ := flip_in c hc s (List.mem_range.1 hs)
  unfold powI powS
  simp only [Function.comp]
  rw [h2]
  cases hb : s.testBit c
  · obtain ⟨h4, h5⟩ := h3 hb
    rw [h5, ← h4]
    cases W (s ^^^ 2 ^ c) <;> cases W s <;> simp
  · simp
/-- The program's list of winning sets, counted. -/
theorem pow_winL (m : Mz) (c : Nat) : ((winL m 64).filter fun x => x.toNat.testBit c && !hasI (winL m 64) ((andn x.toNat (2 ^ c) : Nat) : Int)).length = ((List.range 64).filter (powI (setWinB m) c)).length := by
  have hin : ∀ s, s < 64 → hasI (winL m 64) ((andn s (2 ^ c) : Nat) : Int) = setWinB m (andn s (2 ^ c)) := by
    intro s hs
    have h64 : andn s (2 ^ c) < 64 := andn_lt (n := 6) hs
    rw [Bool.eq_iff_iff, hasI_iff, in_winL]
    constructor
    · rintro ⟨i, _, h, e⟩
      have : andn s (2 ^ c) = i := by omega
      rw [this]; exact h
    · intro h; exact ⟨_, h64, h, rfl⟩
  have e : winL m 64 = ((List.range 64).filter (setWinB m)).map fun (i : Nat) => (i : Int) := rfl
  rw [← List.countP_eq_length_filter, ← List.countP_eq_length_filter]
  conv => lhs; arg 2; rw [e]
  rw [List.countP_map, List.countP_filter]
  refine List.countP_congr fun s hs => ?_
  have hs64 := List.mem_range.1 hs
  simp only [Function.comp, Int.toNat_natCast]
  rw [hin s hs64]
  unfold powI
  cases s.testBit c <;> cases setWinB m s <;> cases setWinB m (andn s (2 ^ c)) <;> simp
noncomputable def powL (m : Mz) : List Int := (List.range 6).map fun c => ((((List.range 64).filter (powS (setWinB m) c)).length : Nat) : Int)
noncomputable def pPowerOfColours (m : Mz) : List Int × Bool := if mazeB m then (powL m, true) else ([], false)
theorem pPowerOfColours_len (m : Mz) : (pPowerOfColours m).1.length ≤ 1000000 := by
  unfold pPowerOfColours; split
  · simp [powL]
  · simp
end Go.KD
