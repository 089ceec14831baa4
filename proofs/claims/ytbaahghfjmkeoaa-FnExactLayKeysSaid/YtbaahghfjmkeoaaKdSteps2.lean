/- Contracts of the reference's l2Has, l2Joins, l2Open, l5Next, l5Largest. -/
import Derived.Test.YtbaahghfjmkeoaaKdSteps
set_option linter.unusedVariables false
set_option linter.unusedSimpArgs false
namespace Go.KD
open Go.RowKit
theorem hid_step {p : Nat → Prop} {k : Nat} (h : Hid (∀ j, j < k → p j)) (hk : p k) : Hid (∀ j, j < k + 1 → p j) := by
  intro j hj
  rcases Nat.lt_or_ge j k with h' | h'
  · exact h.out j h'
  · obtain rfl : j = k := by omega
    exact hk
theorem own_below {w w' : World} {lo size n : Nat} {e : TypeId} {v : Value} {xs : List Value} (h : w.ownsRow lo e size v n xs) (hb : Below w.heap.size w w') : w'.ownsRow lo e size v n xs := ((Own.of h).later hb (Nat.le_refl _)).row
def joinsB (x y : Int) (d : D3) : Bool := (d.1 == x && d.2.1 == y) || (d.1 == y && d.2.1 == x)
theorem opnD_eq (x y : Int) (s : Nat) (d : D3) : opnD x y s d = (joinsB x y d && subB d.2.2.toNat s) := rfl
theorem opn_none {m : Mz} {x y : Int} {s : Nat} (h : ∀ k, k < m.doors.length → opnD x y s m.doors[k]! = false) : opnB m x y s = false := by
  rw [Bool.eq_false_iff, ne_eq, opnB_iff]
  rintro ⟨k, hk, h'⟩
  rw [h k hk] at h'; cases h'
theorem memK_end0 {x : Nat} {s : Nat} (hs : s ≤ 40) (h : InM ⟨s, [], []⟩ x) : memK x s = mem x := memK_all hs fun i hi => by have : (i : Int) < s := h i hi; omega
theorem keysL_yes {m : Mz} {n k : Nat} (h : n.testBit k = true) : keysL m (memK n (k + 1)) = keysL m (memK n k) ||| m.keys[k]!.toNat := by rw [memK_yes h, keysL_snoc]; simp
theorem keysL_no {m : Mz} {n k : Nat} (h : n.testBit k = false) : keysL m (memK n (k + 1)) = keysL m (memK n k) := by rw [memK_no h]
theorem nexN_no {m : Mz} (ok : MzOk m) {n y : Nat} (hn : n < 4096) (h : n.testBit y = true) : (nexN m n).testBit y = false := by
  rw [Bool.eq_false_iff, ne_eq, nexN_bit ok hn]
  rintro ⟨h', _⟩
  rw [h] at h'; cases h'
end Go.KD
namespace Go.Proofs.Ytbaahghfjmkeoaa
open Go.RowKit Go.KD
attribute [local go_sem] later_cell later_frozen
