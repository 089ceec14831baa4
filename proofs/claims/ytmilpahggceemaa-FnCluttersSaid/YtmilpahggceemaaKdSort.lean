/- Sorted lists and sets of small numbers. No program is named here. -/
import Derived.Test.YtmilpahggceemaaKdNum
import Derived.Lib.SliceRun
import Derived.IntWalk
set_option linter.unusedVariables false
set_option linter.unusedSimpArgs false
namespace Go.KD
def setN (s : Nat) (a : Int) : Nat := s ||| 2 ^ a.toNat
theorem setN_lt {s : Nat} {a : Int} (hs : s < 4096) (ha : 0 ≤ a ∧ a < 12) : setN s a < 4096 := by
  unfold setN
  have h1 : 2 ^ a.toNat < 2 ^ 12 := Nat.pow_lt_pow_right (by omega) (by omega)
  exact Nat.or_lt_two_pow (n := 12) hs h1
end Go.KD
namespace Go.KD
open Go.RowKit Go.Lib
theorem shl_at (y : Nat) (hy : y < 12) : ∃ p : Nat, Hid (p = 2 ^ y) ∧ IntKind.i64.wrap (2 ^ y) = (p : Int) ∧ p < 4096 := by
  refine ⟨2 ^ y, rfl, ?_, Nat.pow_lt_pow_right (n := 12) (by omega) hy⟩
  have h : 2 ^ y < 2 ^ 12 := Nat.pow_lt_pow_right (by omega) hy
  have e : ((2 ^ y : Nat) : Int) = 2 ^ y := by simp
  rw [← e]
  generalize 2 ^ y = q at h
  exact IntWalk.i64_in _ (by omega)
end Go.KD
namespace Go.KD
open Go.RowKit
def putL : List Int → Int → List Int
  | [], n => [n]
  | x :: l, n => if x < n then x :: putL l n else if x = n then x :: l else n :: x :: l
theorem putL_eq : ∀ (l : List Int) (n : Int) (k : Nat), k ≤ l.length → (∀ j, j < k → l[j]! < n) → (k < l.length → ¬ l[k]! < n) → putL l n = if k < l.length ∧ l[k]! = n then l else l.take k ++ n :: l.drop k
  | [], n, k, hk, _, _ => by
    obtain rfl : k = 0 := by simpa using hk
    simp [putL]
  | x :: l, n, 0, _, _, h => by
    have h := h (by simp)
    simp only [List.getElem!_cons_zero] at h
    by_cases hx : x = n
    · simp [putL, hx]
    · simp [putL, h, hx]
  | x :: l, n, k + 1, hk, hj, h => by
    have h0 := hj 0 (by omega)
    simp only [List.getElem!_cons_zero] at h0
    have ih := putL_eq l n k (by simpa using hk) (fun j hjk => by have := hj (j + 1) (by omega); simpa using this) (fun hkl => by have := h (by simpa using hkl); simpa using this)
    simp only [putL, h0, if_true, ih, List.length_cons, Nat.add_lt_add_iff_right, List.getElem!_cons_succ, List.take_succ_cons, List.drop_succ_cons, List.cons_append]
    split <;> rfl
theorem mem_putL : ∀ (l : List Int) (n y : Int), y ∈ putL l n ↔ y ∈ l ∨ y = n
  | [], n, y => by simp [putL]
  | x :: l, n, y => by
    unfold putL
    split
    · simp [mem_putL l n y, or_assoc]
    · split
      · rename_i h; subst h; simp; intro h; exact .inl h
      · simp only [List.mem_cons]; constructor
        · rintro (h | h | h) <;> simp [h]
        · rintro ((h | h) | h) <;> simp [h]
theorem putL_sorted : ∀ (l : List Int) (n : Int), l.Pairwise (· < ·) → (putL l n).Pairwise (· < ·)
  | [], n, _ => by simp [putL]
  | x :: l, n, h => by
    rw [List.pairwise_cons] at h
    unfold putL
    split
    · rename_i hx
      rw [List.pairwise_cons]
      refine ⟨fun y hy => ?_, putL_sorted l n h.2⟩
      rcases (mem_putL l n y).1 hy with hy | rfl
      · exact h.1 y hy
      · exact hx
    · split
      · exact List.pairwise_cons.2 h
      · rename_i h1 h2
        rw [List.pairwise_cons]
        refine ⟨fun y hy => ?_, List.pairwise_cons.2 h⟩
        rcases List.mem_cons.1 hy with rfl | hy
        · omega
        · have := h.1 y hy; omega
theorem sorted_ext : ∀ (a b : List Int), a.Pairwise (· < ·) → b.Pairwise (· < ·) → (∀ x, x ∈ a ↔ x ∈ b) → a = b
  | [], [], _, _, _ => rfl
  | [], y :: b, _, _, h => absurd ((h y).2 (by simp)) (by simp)
  | x :: a, [], _, _, h => absurd ((h x).1 (by simp)) (by simp)
  | x :: a, y :: b, ha, hb, h => by
    rw [List.pairwise_cons] at ha hb
    have hxy : x = y := by
      rcases List.mem_cons.1 ((h x).1 (by simp)) with e | e
      · exact e
      · rcases List.mem_cons.1 ((h y).2 (by simp)) with e' | e'
        · exact e'.symm
        · have h1 := hb.1 x e; have h2 := ha.1 y e'; omega
    subst hxy
    congr 1
    refine sorted_ext a b ha.2 hb.2 fun z => ⟨fun hz => ?_, fun hz => ?_⟩
    · rcases List.mem_cons.1 ((h z).1 (by simp [hz])) with e | e
      · have := ha.1 z hz; omega
      · exact e
    · rcases List.mem_cons.1 ((h z).2 (by simp [hz])) with e | e
      · have := hb.1 z hz; omega
      · exact e
theorem in_mem (s : Nat) (y : Int) : y ∈ mem s ↔ ∃ i : Nat, i < 40 ∧ s.testBit i = true ∧ y = i := by
  simp only [mem, memN, List.mem_map, List.mem_filter, List.mem_range]
  constructor
  · rintro ⟨i, ⟨h1, h2⟩, rfl⟩; exact ⟨i, h1, h2, rfl⟩
  · rintro ⟨i, h1, h2, rfl⟩; exact ⟨i, ⟨h1, h2⟩, rfl⟩
theorem mem_sorted (s : Nat) : (mem s).Pairwise (· < ·) := by
  unfold mem memN
  rw [List.pairwise_map]
  refine (List.pairwise_lt_range.filter _).imp fun h => by omega
theorem put_mem (p : List Int) (hp : p = [] ∨ p = [-1]) (s n : Nat) (hn : n < 40) : putL (p ++ mem s) n = p ++ mem (s ||| 2 ^ n) := by
  have hs : ∀ t : Nat, (p ++ mem t).Pairwise (· < ·) := by
    intro t
    rcases hp with rfl | rfl
    · exact mem_sorted t
    · show ((-1 : Int) :: mem t).Pairwise _
      rw [List.pairwise_cons]
      refine ⟨fun y hy => ?_, mem_sorted t⟩
      obtain ⟨i, _, _, rfl⟩ := (in_mem t y).1 hy
      omega
  refine sorted_ext _ _ (putL_sorted _ _ (hs s)) (hs _) fun y => ?_
  rw [mem_putL, List.mem_append, List.mem_append, in_mem, in_mem]
  constructor
  · rintro ((h | ⟨i, h1, h2, rfl⟩) | rfl)
    · exact .inl h
    · exact .inr ⟨i, h1, by simp [h2], rfl⟩
    · exact .inr ⟨n, hn, by simp [Nat.testBit_two_pow], rfl⟩
  · rintro (h | ⟨i, h1, h2, rfl⟩)
    · exact .inl (.inl h)
    · rw [Nat.testBit_or, Bool.or_eq_true] at h2
      rcases h2 with h2 | h2
      · exact .inl (.inr ⟨i, h1, h2, rfl⟩)
      · rw [Nat.testBit_two_pow] at h2
        have : n = i := by simpa using h2
        subst this
        exact .inr rfl
end Go.KD
