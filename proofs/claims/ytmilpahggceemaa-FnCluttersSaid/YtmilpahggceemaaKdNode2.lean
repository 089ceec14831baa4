/- Complete entry orders, and all that can be entered. No program is named here. -/
import Derived.Test.YtmilpahggceemaaKdNode
set_option linter.unusedVariables false
set_option linter.unusedSimpArgs false
namespace Go.KD
open Go.RowKit
theorem grow_fix (v : Nat → Nat) (P : Nat → Prop) (h : ∀ k, P k ∨ v k < v (k + 1)) (hb : ∀ k, v k < 4096) : ∃ k, k < 4096 ∧ P k := by
  refine Classical.byContradiction fun hn => ?_
  have hall : ∀ k, k ≤ 4096 → k ≤ v k := by
    intro k
    induction k with
    | zero => intro _; omega
    | succ k ih =>
      intro hk
      have := ih (by omega)
      rcases h k with hp | hp
      · exact absurd ⟨k, by omega, hp⟩ hn
      · omega
  have h1 := hall 4096 (Nat.le_refl _)
  have h2 := hb 4096
  omega
def pickN (last : Bool) (l : List Int) : Int := if last then l[l.length - 1]! else l[0]!
def fuS (m : Mz) (last : Bool) (s : List Int × Nat) : List Int × Nat := if nexN m s.2 = 0 then s else (s.1 ++ [pickN last (mem (nexN m s.2))], setN s.2 (pickN last (mem (nexN m s.2))))
def fuK (m : Mz) (last : Bool) : Nat → List Int × Nat
  | 0 => ([0], 1)
  | k + 1 => fuS m last (fuK m last k)
def fuFin (m : Mz) (last : Bool) (k : Nat) : List Int := (fuK m last k).1
def fullL (m : Mz) (last : Bool) : List Int := fuFin m last 4096
theorem fuFin_eq {m : Mz} {last : Bool} {n k : Nat} (h : fuK m last n = fuK m last k) : fuFin m last n = (fuK m last k).1 := by unfold fuFin; rw [h]
theorem fullL_eq {m : Mz} {last : Bool} {k : Nat} (h : fuK m last 4096 = fuK m last k) : fullL m last = (fuK m last k).1 := fuFin_eq h
theorem pick_mem {last : Bool} {l : List Int} (h : l ≠ []) : pickN last l ∈ l := by
  have hl : 0 < l.length := List.length_pos_iff.2 h
  unfold pickN
  split
  · rw [getElem!_pos l _ (by omega)]; exact List.getElem_mem _
  · rw [getElem!_pos l _ hl]; exact List.getElem_mem _
theorem mem_nil {x : Nat} (hx : x < 4096) (h : mem x = []) : x = 0 := by
  apply Nat.eq_of_testBit_eq
  intro i
  rw [Nat.zero_testBit]
  cases hi : x.testBit i
  · rfl
  · have : (i : Int) ∈ mem x := (in_mem x i).2 ⟨i, by have := bit_lt (n := 12) hx hi; omega, hi, rfl⟩
    rw [h] at this; cases this
theorem mem_zero : mem 0 = [] := by decide
theorem pick_next {m : Mz} (ok : MzOk m) (last : Bool) {n : Nat} (hn : n < 4096) (h : nexN m n ≠ 0) : ∃ i : Nat, pickN last (mem (nexN m n)) = i ∧ (nexN m n).testBit i = true ∧ i < 12 ∧ (i : Int) < m.size ∧ n.testBit i = false := by
  have h1 := pick_mem (last := last) (l := mem (nexN m n)) (fun e => h (mem_nil (nexN_lt ok n) e))
  obtain ⟨i, _, hi, he⟩ := (in_mem _ _).1 h1
  exact ⟨i, he, hi, bit_lt (n := 12) (nexN_lt ok n) hi, nexN_size ok hn hi, ((nexN_bit ok hn i).1 hi).1⟩
theorem fuS_code {m : Mz} (ok : MzOk m) (last : Bool) {s : List Int × Nat} (hs : s.2 < 4096) : (fuS m last s).2 < 4096 := by
  unfold fuS
  split
  · exact hs
  · rename_i h
    obtain ⟨i, he, _, h12, _, _⟩ := pick_next ok last hs h
    rw [he]
    exact setN_lt hs (by omega)
theorem fuK_lt {m : Mz} (ok : MzOk m) (last : Bool) : ∀ k, (fuK m last k).2 < 4096
  | 0 => by show 1 < 4096; omega
  | k + 1 => fuS_code ok last (fuK_lt ok last k)
theorem setN_grows {s i : Nat} (h : s.testBit i = false) : s < setN s (i : Int) := by
  have h1 : s ≤ setN s (i : Int) := Nat.left_le_or
  rcases Nat.lt_or_ge s (setN s i) with h2 | h2
  · exact h2
  · have e : setN s (i : Int) = s := by omega
    have := congrArg (fun z => Nat.testBit z i) e
    simp only [setN_bit] at this
    simp [h] at this
theorem fu_grows {m : Mz} (ok : MzOk m) (last : Bool) {s : List Int × Nat} (hs : s.2 < 4096) (h : nexN m s.2 ≠ 0) : s.2 < (fuS m last s).2 := by
  obtain ⟨i, he, _, h12, _, hb⟩ := pick_next ok last hs h
  unfold fuS
  rw [if_neg h, he]
  exact setN_grows hb
theorem fuK_end {m : Mz} {last : Bool} {k : Nat} (h : nexN m (fuK m last k).2 = 0) : ∀ j, fuK m last (k + j) = fuK m last k
  | 0 => rfl
  | j + 1 => by
    show fuS m last (fuK m last (k + j)) = _
    rw [fuK_end h j, fuS, if_pos h]
theorem fuK_full {m : Mz} (ok : MzOk m) {last : Bool} {k : Nat} (hk : k ≤ (fuK m last k).2) (h : nexN m (fuK m last k).2 = 0) : fuK m last 4096 = fuK m last k := by
  have := fuK_lt ok last k
  rw [show 4096 = k + (4096 - k) from by omega, fuK_end h]
theorem fuK_len {m : Mz} (ok : MzOk m) (last : Bool) : ∀ k, (fuK m last k).1.length ≤ (fuK m last k).2
  | 0 => by show 1 ≤ 1; omega
  | k + 1 => by
    have ih := fuK_len ok last k
    have hl := fuK_lt ok last k
    show (fuS m last _).1.length ≤ (fuS m last _).2
    by_cases h : nexN m (fuK m last k).2 = 0
    · rw [fuS, if_pos h]; exact ih
    · have := fu_grows ok last hl h
      have e : (fuS m last (fuK m last k)).1.length = (fuK m last k).1.length + 1 := by rw [fuS, if_neg h]; simp
      omega
theorem fuFin_len {m : Mz} (ok : MzOk m) (last : Bool) (k : Nat) : (fuFin m last k).length ≤ 4096 := Nat.le_trans (fuK_len ok last k) (Nat.le_of_lt (fuK_lt ok last k))
theorem fullL_len {m : Mz} (ok : MzOk m) (last : Bool) : (fullL m last).length ≤ 4096 := fuFin_len ok last 4096
theorem fuK_in {m : Mz} (ok : MzOk m) (last : Bool) : ∀ k y, y ∈ (fuK m last k).1 ↔ y ∈ mem (fuK m last k).2
  | 0, y => by
    show y ∈ [0] ↔ y ∈ mem 1
    rw [show mem 1 = [0] from by decide]
  | k + 1, y => by
    have ih := fuK_in ok last k y
    have hl := fuK_lt ok last k
    show y ∈ (fuS m last _).1 ↔ y ∈ mem (fuS m last _).2
    by_cases h : nexN m (fuK m last k).2 = 0
    · rw [fuS, if_pos h]; exact ih
    · obtain ⟨i, he, _, h12, _, hb⟩ := pick_next ok last hl h
      rw [fuS, if_neg h, he, List.mem_append, ih, in_mem, in_mem]
      constructor
      · rintro (⟨j, h1, h2, rfl⟩ | h3)
        · exact ⟨j, h1, by rw [setN_bit, h2]; rfl, rfl⟩
        · have : y = i := by simpa using h3
          exact ⟨i, by omega, by rw [setN_bit]; simp, this⟩
      · rintro ⟨j, h1, h2, rfl⟩
        rw [setN_bit, Bool.or_eq_true] at h2
        rcases h2 with h2 | h2
        · exact .inl ⟨j, h1, h2, rfl⟩
        · right; have : i = j := by simpa using h2
          simp [this]
/-! What is closed -/
def SubN (a b : Nat) : Prop := ∀ i, a.testBit i = true → b.testBit i = true
theorem SubN.antisymm {a b : Nat} (h : SubN a b) (k : SubN b a) : a = b := by
  apply Nat.eq_of_testBit_eq
  intro i
  rw [Bool.eq_iff_iff]
  exact ⟨h i, k i⟩
theorem subB_mono {o s t : Nat} (h : SubN s t) (k : subB o s = true) : subB o t = true := by
  rw [subB_iff] at *
  exact fun i hi => h i (k i hi)
theorem opnB_mono {m : Mz} {x y : Int} {s t : Nat} (h : SubN s t) (k : opnB m x y s = true) : opnB m x y t = true := by
  obtain ⟨j, hj, k⟩ := opnB_iff.1 k
  refine opnB_iff.2 ⟨j, hj, ?_⟩
  unfold opnD at *
  rw [Bool.and_eq_true] at *
  exact ⟨k.1, subB_mono h k.2⟩
theorem keysL_mono {m : Mz} {l l' : List Int} (h : ∀ x ∈ l, x ∈ l') : SubN (keysL m l) (keysL m l') := by
  intro i hi
  rw [keysL_bit, List.any_eq_true] at *
  obtain ⟨x, hx, hi⟩ := hi
  exact ⟨x, h x hx, hi⟩
theorem mem_mono {a b : Nat} (h : SubN a b) : ∀ x ∈ mem a, x ∈ mem b := by
  intro x hx
  obtain ⟨i, h1, h2, rfl⟩ := (in_mem a x).1 hx
  exact (in_mem b _).2 ⟨i, h1, h i h2, rfl⟩
theorem nex_mono {m : Mz} (ok : MzOk m) {a c : Nat} (ha : a < 4096) (hc : c < 4096) (h : SubN a c) (hz : nexN m c = 0) : SubN (nexN m a) c := by
  intro y hy
  obtain ⟨_, x, hx, ho⟩ := (nexN_bit ok ha y).1 hy
  cases hcy : c.testBit y
  · have : (nexN m c).testBit y = true := (nexN_bit ok hc y).2 ⟨hcy, x, h x hx, opnB_mono (keysL_mono (mem_mono h)) ho⟩
    rw [hz] at this; simp at this
  · rfl
theorem itL_sub {m : Mz} (ok : MzOk m) (code : Nat) {c : Nat} (hc : c < 4096) (h0 : c.testBit 0 = true) (hz : nexN m c = 0) : ∀ k, SubN (itL m code k) c
  | 0 => by
    intro i hi
    have hi : (code &&& 1).testBit i = true := hi
    rw [Nat.testBit_and, Bool.and_eq_true] at hi
    have : i < 1 := bit_lt (n := 1) (by decide) hi.2
    obtain rfl : i = 0 := by omega
    exact h0
  | k + 1 => by
    intro i hi
    have hi : (itL m code k ||| (nexN m (itL m code k) &&& code)).testBit i = true := hi
    rw [Nat.testBit_or, Nat.testBit_and, Bool.or_eq_true, Bool.and_eq_true] at hi
    rcases hi with hi | hi
    · exact itL_sub ok code hc h0 hz k i hi
    · exact nex_mono ok (itL_lt ok code k) hc (itL_sub ok code hc h0 hz k) hz i hi.1
theorem fuK_sub {m : Mz} (ok : MzOk m) (last : Bool) {c : Nat} (hc : c < 4096) (h0 : c.testBit 0 = true) (hz : nexN m c = 0) : ∀ k, SubN (fuK m last k).2 c
  | 0 => by
    intro i hi
    have hi : Nat.testBit 1 i = true := hi
    have : i < 1 := bit_lt (n := 1) (by decide) hi
    obtain rfl : i = 0 := by omega
    exact h0
  | k + 1 => by
    have ih := fuK_sub ok last hc h0 hz k
    have hl := fuK_lt ok last k
    show SubN (fuS m last _).2 c
    by_cases h : nexN m (fuK m last k).2 = 0
    · rw [fuS, if_pos h]; exact ih
    · obtain ⟨i, he, hn, h12, _, hb⟩ := pick_next ok last hl h
      rw [fuS, if_neg h, he]
      intro j hj
      have hj : (setN (fuK m last k).2 (i : Int)).testBit j = true := hj
      rw [setN_bit, Bool.or_eq_true] at hj
      rcases hj with hj | hj
      · exact ih j hj
      · have : i = j := by simpa using hj
        subst this
        exact nex_mono ok hl hc ih hz i hn
theorem largN_fix {m : Mz} (ok : MzOk m) (code : Nat) : nexN m (largN m code) &&& code = 0 := by
  obtain ⟨k, hk, h⟩ := grow_fix (fun k => itL m code k) (fun k => nexN m (itL m code k) &&& code = 0) (fun k => by
    by_cases h : nexN m (itL m code k) &&& code = 0
    · exact .inl h
    · exact .inr (lgN_grows h)) (itL_lt ok code)
  have e : largN m code = itL m code k := by unfold largN; rw [show 4096 = k + (4096 - k) from by omega, itL_end h]
  rw [e]; exact h
theorem fuK_fix {m : Mz} (ok : MzOk m) (last : Bool) : nexN m (fuK m last 4096).2 = 0 := by
  obtain ⟨k, hk, h⟩ := grow_fix (fun k => (fuK m last k).2) (fun k => nexN m (fuK m last k).2 = 0) (fun k => by
    by_cases h : nexN m (fuK m last k).2 = 0
    · exact .inl h
    · exact .inr (fu_grows ok last (fuK_lt ok last k) h)) (fuK_lt ok last)
  rw [show 4096 = k + (4096 - k) from by omega, fuK_end h]; exact h
theorem largN_lt {m : Mz} (ok : MzOk m) (code : Nat) : largN m code < 4096 := itL_lt ok code _
theorem itL_zero {m : Mz} {code : Nat} (h : code.testBit 0 = true) : ∀ k, (itL m code k).testBit 0 = true
  | 0 => by show (code &&& 1).testBit 0 = true; rw [Nat.testBit_and, h]; rfl
  | k + 1 => by
    show (itL m code k ||| _).testBit 0 = true
    rw [Nat.testBit_or, itL_zero h k]; rfl
theorem fuK_zero {m : Mz} (ok : MzOk m) (last : Bool) (k : Nat) : (fuK m last k).2.testBit 0 = true := by
  have h : ∀ k, (0 : Int) ∈ (fuK m last k).1 := by
    intro k
    induction k with
    | zero => show (0 : Int) ∈ [0]; simp
    | succ k ih =>
      show (0 : Int) ∈ (fuS m last _).1
      unfold fuS
      split
      · exact ih
      · exact List.mem_append_left _ ih
  have := (fuK_in ok last k 0).1 (h k)
  obtain ⟨i, _, h2, h3⟩ := (in_mem _ _).1 this
  have : i = 0 := by omega
  rwa [this] at h2
def allN (m : Mz) : Nat := 2 ^ m.size.toNat - 1
theorem allN_bit (m : Mz) (i : Nat) : (allN m).testBit i = decide (i < m.size.toNat) := by unfold allN; rw [Nat.testBit_two_pow_sub_one]
theorem allN_lt {m : Mz} (ok : MzOk m) : allN m < 4096 := by
  refine lt_of_bits (n := 12) fun i hi => ?_
  rw [allN_bit] at hi
  have := ok.s2
  have : i < m.size.toNat := by simpa using hi
  omega
/-- All that can be entered is the nodes of each complete entry order. -/
theorem entered_eq {m : Mz} (ok : MzOk m) (last : Bool) : largN m (allN m) = (fuK m last 4096).2 := by
  have h0 : (allN m).testBit 0 = true := by rw [allN_bit]; have := ok.s1; simp; omega
  have hz : nexN m (largN m (allN m)) = 0 := by
    apply Nat.eq_of_testBit_eq
    intro i
    rw [Nat.zero_testBit]
    cases hi : (nexN m (largN m (allN m))).testBit i
    · rfl
    · have h1 := nexN_size ok (largN_lt ok _) hi
      have := congrArg (fun z => Nat.testBit z i) (largN_fix ok (allN m))
      simp only [Nat.testBit_and, hi, allN_bit, Nat.zero_testBit, Bool.true_and] at this
      simp at this; omega
  exact SubN.antisymm (itL_sub ok _ (fuK_lt ok last _) (fuK_zero ok last _) (fuK_fix ok last) _) (fuK_sub ok last (largN_lt ok _) (itL_zero h0 _) hz _)
end Go.KD
