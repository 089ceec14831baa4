/- Nodes of a maze as binary digits: steps, keys, what can be entered next, the largest entry set. No program is named here. -/
import Derived.Test.YtmilpahggceemaaKdSort
import Derived.Test.YtmilpahggceemaaKdOpen
set_option linter.unusedVariables false
set_option linter.unusedSimpArgs false
namespace Go.KD
open Go.RowKit
/-- Does the set s have all colours of o? -/
def subB (o s : Nat) : Bool := andn o s == 0
theorem subB_iff {o s : Nat} : subB o s = true ↔ ∀ i, o.testBit i = true → s.testBit i = true := by
  unfold subB
  rw [beq_iff_eq]
  constructor
  · intro h i hi
    have := congrArg (fun z => Nat.testBit z i) h
    simp only [andn_bit, Nat.zero_testBit, hi, Bool.true_and, Bool.not_eq_false'] at this
    exact this
  · intro h
    apply Nat.eq_of_testBit_eq
    intro i
    rw [andn_bit, Nat.zero_testBit]
    cases ho : o.testBit i
    · rfl
    · rw [h i ho]; rfl
theorem subB_and (o s : Nat) : (s &&& o == o) = subB o s := by
  rw [Bool.eq_iff_iff, subB_iff, beq_iff_eq]
  constructor
  · intro h i hi
    have := congrArg (fun z => Nat.testBit z i) h
    simp only [Nat.testBit_and, hi, Bool.and_true] at this
    exact this
  · intro h
    apply Nat.eq_of_testBit_eq
    intro i
    rw [Nat.testBit_and]
    cases ho : o.testBit i
    · simp
    · rw [h i ho]; rfl
theorem lt_of_bits {x n : Nat} (h : ∀ i, x.testBit i = true → i < n) : x < 2 ^ n := by
  apply Nat.lt_pow_two_of_testBit
  intro i hi
  cases hx : x.testBit i
  · rfl
  · have := h i hx; omega
theorem bit_lt {x n i : Nat} (h : x < 2 ^ n) (hi : x.testBit i = true) : i < n := by
  rcases Nat.lt_or_ge i n with h' | h'
  · exact h'
  · rw [Nat.testBit_lt_two_pow (Nat.lt_of_lt_of_le h (Nat.pow_le_pow_right (by decide) h'))] at hi; cases hi
theorem door_facts {m : Mz} (h : MzOk m) {k : Nat} (hk : k < m.doors.length) {x y z : Int} (hg : m.doors[k]! = (x, y, z)) : 0 ≤ x ∧ x < y ∧ y < m.size ∧ 0 ≤ z ∧ z < 64 := by
  have := h.dr k hk
  rw [doorB_eq hg] at this
  simp only [Bool.and_eq_true, inB_true, setB_true] at this
  omega
theorem key_facts {m : Mz} (h : MzOk m) {k : Nat} (hk : k < m.keys.length) : 0 ≤ m.keys[k]! ∧ m.keys[k]! < 64 := by
  have := setB_true.1 (h.ks k hk)
  omega
theorem setN_bit (s : Nat) (a : Int) (i : Nat) : (setN s a).testBit i = (s.testBit i || decide (a.toNat = i)) := by
  unfold setN; rw [Nat.testBit_or, Nat.testBit_two_pow]
/-- A door as a step from x with the colours s. -/
def joinD (x : Int) (s acc : Nat) (d : D3) : Nat :=
  if subB d.2.2.toNat s then (if d.2.1 = x then setN (if d.1 = x then setN acc d.2.1 else acc) d.1 else (if d.1 = x then setN acc d.2.1 else acc)) else acc
def stK (ds : List D3) (x : Int) (s k : Nat) : Nat := (ds.take k).foldl (joinD x s) 0
def stN (m : Mz) (x : Int) (s : Nat) : Nat := stK m.doors x s m.doors.length
/-- Is a door between x and y, and open with the colours s? -/
def opnD (x y : Int) (s : Nat) (d : D3) : Bool := ((d.1 == x && d.2.1 == y) || (d.1 == y && d.2.1 == x)) && subB d.2.2.toNat s
def opnB (m : Mz) (x y : Int) (s : Nat) : Bool := m.doors.any (opnD x y s)
theorem st_step {ds : List D3} {x : Int} {s k : Nat} (hk : k < ds.length) : stK ds x s (k + 1) = joinD x s (stK ds x s k) ds[k]! := by
  unfold stK
  rw [take_snoc hk, List.foldl_append]
  rfl
theorem joinD_bit {x : Int} {s acc : Nat} {d : D3} {i : Nat} (h1 : 0 ≤ d.1) (h2 : 0 ≤ d.2.1) : (joinD x s acc d).testBit i = (acc.testBit i || opnD x i s d) := by
  obtain ⟨a, b, c⟩ := d
  dsimp only at h1 h2
  unfold joinD opnD
  dsimp only
  cases hs : subB c.toNat s
  · simp
  · have e1 : (decide (a.toNat = i)) = (a == (i : Int)) := by rw [Bool.eq_iff_iff]; simp; omega
    have e2 : (decide (b.toNat = i)) = (b == (i : Int)) := by rw [Bool.eq_iff_iff]; simp; omega
    have fa : (if a = x then setN acc b else acc).testBit i = (acc.testBit i || (a == x && b == (i : Int))) := by
      by_cases ha : a = x
      · rw [if_pos ha, setN_bit, e2, ha]; simp
      · have : (a == x) = false := by simpa using ha
        rw [if_neg ha, this]; simp
    by_cases hb : b = x
    · rw [if_pos rfl, if_pos hb, setN_bit, fa, e1, hb]
      simp [Bool.or_assoc]
    · have : (b == x) = false := by simpa using hb
      rw [if_pos rfl, if_neg hb, fa, this]; simp
theorem stK_bit {m : Mz} (ok : MzOk m) (x : Int) (s i : Nat) : ∀ k, k ≤ m.doors.length → (stK m.doors x s k).testBit i = (m.doors.take k).any (opnD x i s)
  | 0, _ => by simp [stK]
  | k + 1, hk => by
    have hk' : k < m.doors.length := by omega
    obtain ⟨a, b, c, hg⟩ : ∃ a b c, m.doors[k]! = (a, b, c) := ⟨_, _, _, rfl⟩
    have f := door_facts ok hk' hg
    rw [st_step hk', joinD_bit (by rw [hg]; exact f.1) (by rw [hg]; show 0 ≤ b; omega), stK_bit ok x s i k (by omega), take_snoc hk', List.any_append]
    simp
theorem stN_bit {m : Mz} (ok : MzOk m) (x : Int) (s i : Nat) : (stN m x s).testBit i = opnB m x i s := by
  unfold stN opnB
  rw [stK_bit ok x s i _ (Nat.le_refl _), List.take_length]
theorem opnB_iff {m : Mz} {x y : Int} {s : Nat} : opnB m x y s = true ↔ ∃ k, k < m.doors.length ∧ opnD x y s m.doors[k]! = true := by
  unfold opnB
  rw [List.any_eq_true]
  constructor
  · rintro ⟨d, hd, h⟩
    obtain ⟨k, hk, rfl⟩ := List.mem_iff_getElem.1 hd
    exact ⟨k, hk, by rwa [getElem!_pos m.doors k hk]⟩
  · rintro ⟨k, hk, h⟩
    exact ⟨_, List.getElem_mem hk, by rwa [getElem!_pos m.doors k hk] at h⟩
theorem opn_range {m : Mz} (ok : MzOk m) {x y : Int} {s : Nat} (h : opnB m x y s = true) : 0 ≤ x ∧ x < m.size ∧ 0 ≤ y ∧ y < m.size := by
  obtain ⟨k, hk, h⟩ := opnB_iff.1 h
  obtain ⟨a, b, c, hg⟩ : ∃ a b c, m.doors[k]! = (a, b, c) := ⟨_, _, _, rfl⟩
  have f := door_facts ok hk hg
  rw [hg] at h
  simp only [opnD, Bool.and_eq_true, Bool.or_eq_true, beq_iff_eq] at h
  omega
theorem stK_lt {m : Mz} (ok : MzOk m) (x : Int) (s k : Nat) (hk : k ≤ m.doors.length) : stK m.doors x s k < 4096 := by
  have hs := ok.s2
  refine lt_of_bits (n := 12) fun i hi => ?_
  rw [stK_bit ok x s i k hk, List.any_eq_true] at hi
  obtain ⟨d, hd, h⟩ := hi
  have := opn_range ok (x := x) (y := i) (s := s) (by unfold opnB; rw [List.any_eq_true]; exact ⟨d, List.mem_of_mem_take hd, h⟩)
  omega
theorem stN_lt {m : Mz} (ok : MzOk m) (x : Int) (s : Nat) : stN m x s < 4096 := stK_lt ok x s _ (Nat.le_refl _)
/-- The colours of the keys at nodes of a list. -/
def keysL (m : Mz) (l : List Int) : Nat := l.foldl (fun a x => a ||| m.keys[x.toNat]!.toNat) 0
def unionL (m : Mz) (s : Nat) (l : List Int) : Nat := l.foldl (fun a x => a ||| stN m x s) 0
def keyN (m : Mz) (n : Nat) : Nat := keysL m (mem n)
/-- The nodes that can be entered behind some nodes. -/
def nexN (m : Mz) (n : Nat) : Nat := andn (unionL m (keyN m n) (mem n)) n
theorem keysL_snoc (m : Mz) (l : List Int) (x : Int) : keysL m (l ++ [x]) = keysL m l ||| m.keys[x.toNat]!.toNat := by simp [keysL]
theorem unionL_snoc (m : Mz) (s : Nat) (l : List Int) (x : Int) : unionL m s (l ++ [x]) = unionL m s l ||| stN m x s := by simp [unionL]
theorem fold_or_bit {α : Type} (f : α → Nat) (i : Nat) : ∀ (l : List α) (a : Nat), (l.foldl (fun a x => a ||| f x) a).testBit i = (a.testBit i || l.any fun x => (f x).testBit i)
  | [], a => by simp
  | x :: l, a => by rw [List.foldl_cons, fold_or_bit f i l, Nat.testBit_or, List.any_cons, Bool.or_assoc]
theorem keysL_bit (m : Mz) (l : List Int) (i : Nat) : (keysL m l).testBit i = l.any fun x => (m.keys[x.toNat]!.toNat).testBit i := by unfold keysL; rw [fold_or_bit]; simp
theorem unionL_bit (m : Mz) (s : Nat) (l : List Int) (i : Nat) : (unionL m s l).testBit i = l.any fun x => (stN m x s).testBit i := by unfold unionL; rw [fold_or_bit]; simp
theorem keys_lt {m : Mz} (ok : MzOk m) (k : Nat) : m.keys[k]!.toNat < 64 := by
  rcases Nat.lt_or_ge k m.keys.length with h | h
  · have := key_facts ok h; omega
  · rw [getElem!_def, List.getElem?_eq_none h]; decide
theorem keysL_lt {m : Mz} (ok : MzOk m) (l : List Int) : keysL m l < 64 := by
  refine lt_of_bits (n := 6) fun i hi => ?_
  rw [keysL_bit, List.any_eq_true] at hi
  obtain ⟨x, _, h⟩ := hi
  exact bit_lt (n := 6) (keys_lt ok _) h
theorem unionL_lt {m : Mz} (ok : MzOk m) (s : Nat) (l : List Int) : unionL m s l < 4096 := by
  refine lt_of_bits (n := 12) fun i hi => ?_
  rw [unionL_bit, List.any_eq_true] at hi
  obtain ⟨x, _, h⟩ := hi
  exact bit_lt (n := 12) (stN_lt ok _ _) h
theorem nexN_lt {m : Mz} (ok : MzOk m) (n : Nat) : nexN m n < 4096 := andn_lt (n := 12) (unionL_lt ok _ _)
theorem nexN_bit {m : Mz} (ok : MzOk m) {n : Nat} (hn : n < 4096) (y : Nat) : (nexN m n).testBit y = true ↔ n.testBit y = false ∧ ∃ x : Nat, n.testBit x = true ∧ opnB m x y (keyN m n) = true := by
  unfold nexN
  rw [andn_bit, Bool.and_eq_true, Bool.not_eq_true', unionL_bit, List.any_eq_true]
  constructor
  · rintro ⟨⟨x, hx, h⟩, h0⟩
    obtain ⟨i, _, hi, rfl⟩ := (in_mem n x).1 hx
    exact ⟨h0, i, hi, by rw [← stN_bit ok]; exact h⟩
  · rintro ⟨h0, x, hx, h⟩
    refine ⟨⟨x, (in_mem n x).2 ⟨x, by have := bit_lt (n := 12) hn hx; omega, hx, rfl⟩, by rw [stN_bit ok]; exact h⟩, h0⟩
theorem nexN_size {m : Mz} (ok : MzOk m) {n y : Nat} (hn : n < 4096) (h : (nexN m n).testBit y = true) : (y : Int) < m.size := by
  obtain ⟨_, x, _, h⟩ := (nexN_bit ok hn y).1 h
  exact (opn_range ok h).2.2.2
theorem memK_all {x : Nat} {s : Nat} (hs : s ≤ 40) (h : ∀ i, x.testBit i = true → i < s) : memK x s = mem x := by
  rw [mem_eq, show (40 : Nat) = s + (40 - s) from by omega]
  symm
  apply memK_end
  rw [Nat.shiftRight_eq_div_pow]
  exact Nat.div_eq_of_lt (lt_of_bits h)
theorem mem_len40' (x : Nat) : (mem x).length ≤ 40 := by rw [mem_eq]; exact memK_len _ _
theorem mem_popN {x : Nat} (hx : x < 4096) : (mem x).length = popN x := by
  rw [← memK_all (s := 12) (by omega) fun i hi => bit_lt (n := 12) hx hi]
  simp [memK, popN]
theorem hasI_mem {x : Nat} (hx : x < 1099511627776) (y : Int) : y ∈ mem x ↔ 0 ≤ y ∧ x.testBit y.toNat = true := by
  rw [in_mem]
  constructor
  · rintro ⟨i, h1, h2, rfl⟩; exact ⟨by omega, by simpa using h2⟩
  · rintro ⟨h1, h2⟩; exact ⟨y.toNat, bit_lt (n := 40) hx h2, h2, by omega⟩
/-! The largest entry set -/
def lgN (m : Mz) (code out : Nat) : Nat := out ||| (nexN m out &&& code)
def itL (m : Mz) (code : Nat) : Nat → Nat
  | 0 => code &&& 1
  | k + 1 => lgN m code (itL m code k)
def largN (m : Mz) (code : Nat) : Nat := itL m code 4096
theorem itL_lt {m : Mz} (ok : MzOk m) (code : Nat) : ∀ k, itL m code k < 4096
  | 0 => Nat.lt_of_le_of_lt Nat.and_le_right (by decide)
  | k + 1 => Nat.or_lt_two_pow (n := 12) (itL_lt ok code k) (Nat.lt_of_le_of_lt Nat.and_le_left (nexN_lt ok _))
theorem itL_end {m : Mz} {code k : Nat} (h : nexN m (itL m code k) &&& code = 0) : ∀ j, itL m code (k + j) = itL m code k
  | 0 => rfl
  | j + 1 => by
    show lgN m code (itL m code (k + j)) = _
    rw [itL_end h j, lgN, h, Nat.or_zero]
theorem largN_end {m : Mz} (ok : MzOk m) {code k : Nat} (hk : k ≤ itL m code k) (h : nexN m (itL m code k) &&& code = 0) : largN m code = itL m code k := by
  have := itL_lt ok code k
  unfold largN
  rw [show 4096 = k + (4096 - k) from by omega, itL_end h]
theorem lgN_grows {m : Mz} {code out : Nat} (h : nexN m out &&& code ≠ 0) : out < lgN m code out := by
  unfold lgN
  have h1 : out ≤ out ||| (nexN m out &&& code) := Nat.left_le_or
  rcases Nat.lt_or_ge out (out ||| (nexN m out &&& code)) with h2 | h2
  · exact h2
  · exfalso
    apply h
    have e : out ||| (nexN m out &&& code) = out := by omega
    apply Nat.eq_of_testBit_eq
    intro i
    have := congrArg (fun z => Nat.testBit z i) e
    simp only [Nat.testBit_or, Nat.testBit_and, nexN, andn_bit, Nat.zero_testBit] at this ⊢
    cases ho : out.testBit i <;> simp_all
theorem lgN_same {m : Mz} {code out : Nat} (h : lgN m code out = out) : nexN m out &&& code = 0 := by
  rcases Nat.eq_zero_or_pos (nexN m out &&& code) with h0 | h0
  · exact h0
  · have := lgN_grows (m := m) (code := code) (out := out) (by omega); omega
/-! Entry orders -/
def ordOk (m : Mz) (l : List Int) (k n : Nat) : Bool := inB l[k]! 0 (m.size - 1) && (if k = 0 then l[k]! == 0 else (nexN m n).testBit l[k]!.toNat)
def ordK (m : Mz) (l : List Int) : Nat → Option Nat
  | 0 => some 0
  | k + 1 => match ordK m l k with | none => none | some n => if ordOk m l k n then some (setN n l[k]!) else none
def ordP (m : Mz) (l : List Int) : Nat × Bool := if l.length = 0 then (0, false) else match ordK m l l.length with | some n => (n, true) | none => (0, false)
theorem ordK_none {m : Mz} {l : List Int} {k : Nat} (h : ordK m l k = none) : ∀ j, ordK m l (k + j) = none
  | 0 => h
  | j + 1 => by show ordK m l ((k + j) + 1) = none; unfold ordK; rw [ordK_none h j]
theorem ordK_lt {m : Mz} (ok : MzOk m) {l : List Int} : ∀ k n, ordK m l k = some n → n < 4096
  | 0, n, h => by simp only [ordK, Option.some.injEq] at h; omega
  | k + 1, n, h => by
    unfold ordK at h
    split at h
    · cases h
    · rename_i n0 h0
      have ih := ordK_lt ok k n0 h0
      split at h
      · rename_i hb
        simp only [Option.some.injEq] at h
        simp only [ordOk, Bool.and_eq_true, inB_true] at hb
        have := ok.s2
        rw [← h]; exact setN_lt ih (by omega)
      · cases h
theorem ordP_bad {m : Mz} {l : List Int} {k n : Nat} (hk : k < l.length) (h : ordK m l k = some n) (hb : ordOk m l k n = false) : ordP m l = (0, false) := by
  have h1 : ordK m l (k + 1) = none := by unfold ordK; rw [h]; simp [hb]
  have h2 := ordK_none h1 (l.length - (k + 1))
  rw [show k + 1 + (l.length - (k + 1)) = l.length from by omega] at h2
  unfold ordP
  rw [if_neg (by omega), h2]
theorem ordP_good {m : Mz} {l : List Int} {n : Nat} (hl : l.length ≠ 0) (h : ordK m l l.length = some n) : ordP m l = (n, true) := by
  unfold ordP
  rw [if_neg hl, h]
/-! Rising lists of nodes -/
def riseB (m : Mz) (l : List Int) (k : Nat) : Bool := inB l[k]! 0 (m.size - 1) && (k == 0 || decide (l[k-1]! < l[k]!))
def codeK (l : List Int) (k : Nat) : Nat := (l.take k).foldl setN 0
def codeL (l : List Int) : Nat := codeK l l.length
open Classical in
noncomputable def risesB (m : Mz) (l : List Int) : Bool := decide (∀ k, k < l.length → riseB m l k = true)
theorem risesB_true {m : Mz} {l : List Int} : risesB m l = true ↔ ∀ k, k < l.length → riseB m l k = true := by simp [risesB]
theorem risesB_no {m : Mz} {l : List Int} {k : Nat} (hk : k < l.length) (h : riseB m l k = false) : risesB m l = false := by
  rw [Bool.eq_false_iff, ne_eq, risesB_true]
  intro h'
  rw [h' k hk] at h; cases h
theorem codeK_step {l : List Int} {k : Nat} (hk : k < l.length) : codeK l (k + 1) = setN (codeK l k) l[k]! := by
  unfold codeK
  rw [take_snoc hk, List.foldl_append]
  rfl
theorem codeK_lt {m : Mz} (ok : MzOk m) {l : List Int} : ∀ k, k ≤ l.length → (∀ j, j < k → inB l[j]! 0 (m.size - 1) = true) → codeK l k < 4096
  | 0, _, _ => by simp [codeK]
  | k + 1, hk, h => by
    rw [codeK_step (by omega)]
    have := ok.s2
    have h1 := inB_true.1 (h k (by omega))
    exact setN_lt (codeK_lt ok k (by omega) fun j hj => h j (by omega)) (by omega)
theorem riseB_in {m : Mz} {l : List Int} {k : Nat} (h : riseB m l k = true) : inB l[k]! 0 (m.size - 1) = true := by
  simp only [riseB, Bool.and_eq_true] at h; exact h.1
theorem codeK_bit (l : List Int) (i : Nat) : ∀ k, k ≤ l.length → (codeK l k).testBit i = (l.take k).any fun x => decide (x.toNat = i)
  | 0, _ => by simp [codeK]
  | k + 1, hk => by
    rw [codeK_step (by omega), setN_bit, codeK_bit l i k (by omega), take_snoc (by omega), List.any_append]
    simp
/-- Has a list of nodes the node 0? -/
theorem codeL_zero {m : Mz} {l : List Int} (h : risesB m l = true) : (codeL l).testBit 0 = l.any (fun x => decide (x = 0)) := by
  unfold codeL
  rw [codeK_bit l 0 _ (Nat.le_refl _), List.take_length, Bool.eq_iff_iff, List.any_eq_true, List.any_eq_true]
  constructor
  · rintro ⟨x, hx, h1⟩
    obtain ⟨j, hj, rfl⟩ := List.mem_iff_getElem.1 hx
    have := inB_true.1 (riseB_in (risesB_true.1 h j hj))
    rw [getElem!_pos l j hj] at this
    exact ⟨_, hx, by simp at h1 ⊢; omega⟩
  · rintro ⟨x, hx, h1⟩
    exact ⟨x, hx, by simp at h1 ⊢; omega⟩
end Go.KD
