/- Contracts of l5Order, isEntryOrder, NextNodes. -/
import Derived.Test.YtldogbahbjompaaKdOrd
import Derived.Deep.RegionHeld3
set_option linter.unusedVariables false
set_option linter.unusedSimpArgs false
namespace Go.KD
open Go.RowKit
noncomputable def pNextNodes (m : Mz) (l : List Int) : List Int × Bool := if mazeB m && (ordP m l).2 then (mem (nexN m (ordP m l).1), true) else ([], false)
theorem mem_len40 (x : Nat) : (mem x).length ≤ 40 := by rw [mem_eq]; exact memK_len _ _
theorem pNextNodes_len (m : Mz) (l : List Int) : (pNextNodes m l).1.length ≤ 1000000 := by
  unfold pNextNodes
  split
  · have := mem_len40 (nexN m (ordP m l).1); simp only; omega
  · simp
theorem ordK_in {m : Mz} (ok : MzOk m) {l : List Int} : ∀ k n, ordK m l k = some n → InM m n
  | 0, n, h => by
    simp only [ordK, Option.some.injEq] at h
    subst h
    intro i hi; simp at hi
  | k + 1, n, h => by
    unfold ordK at h
    split at h
    · cases h
    · rename_i n0 h0
      have ih := ordK_in ok k n0 h0
      split at h
      · rename_i hb
        simp only [Option.some.injEq] at h
        simp only [ordOk, Bool.and_eq_true, inB_true] at hb
        intro i hi
        rw [← h, setN_bit, Bool.or_eq_true] at hi
        rcases hi with hi | hi
        · exact ih i hi
        · have : l[k]!.toNat = i := by simpa using hi
          omega
      · cases h
theorem ord_has {m : Mz} (ok : MzOk m) {l : List Int} {k n : Nat} (hn : n < 4096) (hk : k ≠ 0) : hasI (mem (nexN m n)) l[k]! = ordOk m l k n := by
  have hx := nexN_lt ok n
  rw [Bool.eq_iff_iff, hasI_iff, hasI_mem (by omega)]
  simp only [ordOk, if_neg hk, Bool.and_eq_true, inB_true]
  constructor
  · rintro ⟨h1, h2⟩
    have := nexN_size ok hn h2
    exact ⟨⟨h1, by omega⟩, h2⟩
  · rintro ⟨h1, h2⟩; exact ⟨h1.1, h2⟩
theorem ordK_step {m : Mz} {l : List Int} {k n : Nat} (h : ordK m l k = some n) (hb : ordOk m l k n = true) : ordK m l (k + 1) = some (setN n l[k]!) := by
  show (match ordK m l k with | none => none | some n => if ordOk m l k n then some (setN n l[k]!) else none) = _
  rw [h]; simp [hb]
end Go.KD
namespace Go.Proofs.Ytldogbahbjompaa
open Go.RowKit Go.KD
attribute [local go_sem] later_cell later_frozen
