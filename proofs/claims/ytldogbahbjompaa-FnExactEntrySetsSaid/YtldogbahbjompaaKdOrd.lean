/- Contracts of l5Largest, slices.Max, entryOrder, l5Full. -/
import Derived.Test.YtldogbahbjompaaKdNode2
import Derived.Test.YtldogbahbjompaaKdNext
set_option linter.unusedVariables false
set_option linter.unusedSimpArgs false
namespace Go.KD
open Go.RowKit
def addC (code a : Nat) (x : Int) : Nat := if code.testBit x.toNat then setN a x else a
def addK (code out : Nat) (l : List Int) (j : Nat) : Nat := (l.take j).foldl (addC code) out
theorem addK_step {code out : Nat} {l : List Int} {j : Nat} (h : j < l.length) : addK code out l (j + 1) = addC code (addK code out l j) l[j]! := by
  unfold addK
  rw [take_snoc h, List.foldl_append]
  rfl
theorem addC_bit (code a : Nat) (x : Int) (i : Nat) : (addC code a x).testBit i = (a.testBit i || (decide (x.toNat = i) && code.testBit i)) := by
  unfold addC
  by_cases hx : x.toNat = i
  · subst hx
    split
    · rename_i h; rw [setN_bit, h]; simp
    · rename_i h; simp [h]
  · split
    · rw [setN_bit]; simp [hx]
    · simp [hx]
theorem fold_addC (code i : Nat) : ∀ (l : List Int) (a : Nat), (l.foldl (addC code) a).testBit i = (a.testBit i || (l.any (fun x => decide (x.toNat = i)) && code.testBit i))
  | [], a => by simp
  | x :: l, a => by
    rw [List.foldl_cons, fold_addC code i l, addC_bit, List.any_cons]
    cases a.testBit i <;> cases decide (x.toNat = i) <;> cases code.testBit i <;> simp
theorem addK_all {m : Mz} (ok : MzOk m) (code out : Nat) : addK code out (mem (nexN m out)) (mem (nexN m out)).length = lgN m code out := by
  apply Nat.eq_of_testBit_eq
  intro i
  unfold addK lgN
  rw [List.take_length, fold_addC, Nat.testBit_or, Nat.testBit_and]
  congr 2
  rw [Bool.eq_iff_iff, List.any_eq_true]
  constructor
  · rintro ⟨x, hx, h⟩
    obtain ⟨j, _, hj, rfl⟩ := (in_mem _ _).1 hx
    have : j = i := by simpa using h
    rwa [← this]
  · intro h
    exact ⟨i, (in_mem _ _).2 ⟨i, by have := bit_lt (n := 12) (nexN_lt ok out) h; omega, h, rfl⟩, by simp⟩
theorem addK_lt {m : Mz} (ok : MzOk m) (code : Nat) {out : Nat} (ho : out < 4096) (j : Nat) : addK code out (mem (nexN m out)) j < 4096 := by
  refine lt_of_bits (n := 12) fun i hi => ?_
  unfold addK at hi
  rw [fold_addC, Bool.or_eq_true, Bool.and_eq_true, List.any_eq_true] at hi
  rcases hi with hi | ⟨⟨x, hx, h⟩, _⟩
  · exact bit_lt (n := 12) ho hi
  · obtain ⟨j, _, hj, rfl⟩ := (in_mem _ _).1 (List.mem_of_mem_take hx)
    have : j = i := by simpa using h
    rw [← this]
    exact bit_lt (n := 12) (nexN_lt ok out) hj
theorem pick_last (l : List Int) : pickN true l = l[l.length - 1]! := rfl
theorem pick_first (l : List Int) : pickN false l = l[0]! := rfl
theorem fuK_in' {m : Mz} (ok : MzOk m) (last : Bool) : ∀ k, InM m (fuK m last k).2
  | 0, i, hi => by
    have hi : Nat.testBit 1 i = true := hi
    have : i < 1 := bit_lt (n := 1) (by decide) hi
    have := ok.s1; omega
  | k + 1, i, hi => by
    have hl := fuK_lt ok last k
    have hi : (fuS m last (fuK m last k)).2.testBit i = true := hi
    by_cases h : nexN m (fuK m last k).2 = 0
    · rw [fuS, if_pos h] at hi; exact fuK_in' ok last k i hi
    · obtain ⟨j, he, _, _, hs, _⟩ := pick_next ok last hl h
      rw [fuS, if_neg h, he] at hi
      have hi : (setN (fuK m last k).2 (j : Int)).testBit i = true := hi
      rw [setN_bit, Bool.or_eq_true] at hi
      rcases hi with hi | hi
      · exact fuK_in' ok last k i hi
      · have : j = i := by simpa using hi
        rw [← this]; exact hs
end Go.KD
namespace Go.Proofs.Ytldogbahbjompaa
open Go.RowKit Go.KD
attribute [local go_sem] later_cell later_frozen
