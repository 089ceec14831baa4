/- What is reached with fixed colours, and at last. No program is named here. -/
import Derived.Test.YtmilpahggceemaaKdNode2
import Derived.Test.YtmilpahggceemaaKdSteps
set_option linter.unusedVariables false
set_option linter.unusedSimpArgs false
namespace Go.KD
open Go.RowKit
/-- A set of nodes that no step leaves. -/
def ClosedR (m : Mz) (s C : Nat) : Prop := ∀ y : Nat, C.testBit y = true → SubN (stN m y s) C
def rK (m : Mz) (s x : Nat) : Nat → Nat
  | 0 => 2 ^ x
  | k + 1 => rK m s x k ||| unionL m s (mem (rK m s x k))
def reachN (m : Mz) (x s : Nat) : Nat := rK m s x 4096
theorem stN_in {m : Mz} (ok : MzOk m) (x : Int) (s : Nat) : InM m (stN m x s) := by
  intro i hi
  rw [stN_bit ok] at hi
  exact (opn_range ok hi).2.2.2
theorem rK_in {m : Mz} (ok : MzOk m) (s : Nat) {x : Nat} (hx : (x : Int) < m.size) : ∀ k, InM m (rK m s x k)
  | 0 => by
    intro i hi
    have hi : (2 ^ x).testBit i = true := hi
    rw [Nat.testBit_two_pow] at hi
    have : x = i := by simpa using hi
    omega
  | k + 1 => by
    intro i hi
    have hi : (rK m s x k ||| unionL m s (mem (rK m s x k))).testBit i = true := hi
    rw [Nat.testBit_or, Bool.or_eq_true, unionL_bit, List.any_eq_true] at hi
    rcases hi with hi | ⟨y, _, hi⟩
    · exact rK_in ok s hx k i hi
    · exact stN_in ok y s i hi
theorem rK_sub {m : Mz} {s x C : Nat} (hx : C.testBit x = true) (hc : ClosedR m s C) : ∀ k, SubN (rK m s x k) C
  | 0 => by
    intro i hi
    have hi : (2 ^ x).testBit i = true := hi
    rw [Nat.testBit_two_pow] at hi
    have : x = i := by simpa using hi
    rw [← this]; exact hx
  | k + 1 => by
    intro i hi
    have ih := rK_sub hx hc k
    have hi : (rK m s x k ||| unionL m s (mem (rK m s x k))).testBit i = true := hi
    rw [Nat.testBit_or, Bool.or_eq_true, unionL_bit, List.any_eq_true] at hi
    rcases hi with hi | ⟨y, hy, hi⟩
    · exact ih i hi
    · obtain ⟨j, _, hj, rfl⟩ := (in_mem _ _).1 hy
      exact hc j (ih j hj) i hi
theorem rK_grows {m : Mz} {s x k : Nat} (h : rK m s x (k + 1) ≠ rK m s x k) : rK m s x k < rK m s x (k + 1) := by
  have h1 : rK m s x k ≤ rK m s x (k + 1) := by show _ ≤ rK m s x k ||| _; exact Nat.left_le_or
  omega
theorem rK_stay {m : Mz} {s x k : Nat} (h : rK m s x (k + 1) = rK m s x k) : ∀ j, rK m s x (k + j) = rK m s x k
  | 0 => rfl
  | j + 1 => by
    show rK m s x (k + j) ||| unionL m s (mem (rK m s x (k + j))) = _
    rw [rK_stay h j]; exact h
theorem rK_fix {m : Mz} (ok : MzOk m) (s : Nat) {x : Nat} (hx : (x : Int) < m.size) : ∃ k, ∀ j, rK m s x (k + j) = rK m s x k ∧ k ≤ 4096 := by
  obtain ⟨k, hk, h⟩ := grow_fix (fun k => rK m s x k) (fun k => rK m s x (k + 1) = rK m s x k) (fun k => by
    by_cases h : rK m s x (k + 1) = rK m s x k
    · exact .inl h
    · exact .inr (rK_grows h)) (fun k => (rK_in ok s hx k).lt ok)
  exact ⟨k, fun j => ⟨rK_stay h j, by omega⟩⟩
theorem reach_gen {m : Mz} (ok : MzOk m) (s : Nat) {x : Nat} (hx : (x : Int) < m.size) (n : Nat) (hn : 4096 ≤ n) : (rK m s x n).testBit x = true ∧ ClosedR m s (rK m s x n) := by
  obtain ⟨k, h⟩ := rK_fix ok s hx
  have hk := (h 0).2
  have e1 : rK m s x n = rK m s x k := by rw [show n = k + (n - k) from by omega]; exact (h _).1
  have e2 : rK m s x (k + 1) = rK m s x k := (h 1).1
  rw [e1]
  constructor
  · have : ∀ j, (rK m s x j).testBit x = true := by
      intro j
      induction j with
      | zero => show (2 ^ x).testBit x = true; rw [Nat.testBit_two_pow]; simp
      | succ j ih => show (rK m s x j ||| _).testBit x = true; rw [Nat.testBit_or, ih]; rfl
    exact this k
  · intro y hy i hi
    rw [← e2]
    show (rK m s x k ||| unionL m s (mem (rK m s x k))).testBit i = true
    rw [Nat.testBit_or, Bool.or_eq_true, unionL_bit, List.any_eq_true]
    refine .inr ⟨y, ?_, hi⟩
    have := bit_lt (n := 12) ((rK_in ok s hx k).lt ok) hy
    exact (in_mem _ _).2 ⟨y, by omega, hy, rfl⟩
theorem reachN_in {m : Mz} (ok : MzOk m) (s : Nat) {x : Nat} (hx : (x : Int) < m.size) : InM m (reachN m x s) := rK_in ok s hx _
/-- What is reached: the least closed set with the node. -/
theorem reach_is {m : Mz} (ok : MzOk m) {s x out : Nat} (hx : (x : Int) < m.size) (h0 : out.testBit x = true) (hc : ClosedR m s out) (hl : ∀ C, C.testBit x = true → ClosedR m s C → SubN out C) : out = reachN m x s := by
  obtain ⟨h1, h2⟩ := reach_gen ok s hx 4096 (Nat.le_refl _)
  exact SubN.antisymm (hl _ h1 h2) (rK_sub h0 hc _)
/-! A search, seen from without: out is found, todo is still to be looked at. -/
structure Sr (m : Mz) (s x out : Nat) (todo : List Int) : Prop where
  has : out.testBit x = true
  inm : InM m out
  least : ∀ C, C.testBit x = true → ClosedR m s C → SubN out C
  sub : ∀ t ∈ todo, ∃ i : Nat, t = i ∧ out.testBit i = true
  done : ∀ y : Nat, out.testBit y = true → (y : Int) ∈ todo ∨ SubN (stN m y s) out
theorem Sr.start {m : Mz} {s x : Nat} (hx : (x : Int) < m.size) : Sr m s x (2 ^ x) [(x : Int)] := by
  have hb : ∀ i, (2 ^ x).testBit i = true ↔ x = i := fun i => by rw [Nat.testBit_two_pow]; simp
  refine ⟨(hb x).2 rfl, fun i hi => ?_, fun C hC _ i hi => ?_, fun t ht => ?_, fun y hy => .inl ?_⟩
  · have := (hb i).1 hi; omega
  · rw [← (hb i).1 hi]; exact hC
  · exact ⟨x, by simpa using ht, (hb x).2 rfl⟩
  · rw [(hb y).1 hy]; simp
theorem Sr.stop {m : Mz} (ok : MzOk m) {s x out : Nat} (h : Sr m s x out []) (hx : (x : Int) < m.size) : out = reachN m x s :=
  reach_is ok hx h.has (fun y hy => by rcases h.done y hy with h' | h'; · cases h'
                                       · exact h') h.least
theorem Sr.step {m : Mz} (ok : MzOk m) {s x out : Nat} {t : Int} {l : List Int} (h : Sr m s x out (t :: l)) : Sr m s x (out ||| andn (stN m t s) out) (l ++ mem (andn (stN m t s) out)) := by
  obtain ⟨i, rfl, hi⟩ := h.sub t (by simp)
  have hbit : ∀ j, (out ||| andn (stN m (i : Int) s) out).testBit j = (out.testBit j || (stN m (i : Int) s).testBit j) := fun j => by
    rw [Nat.testBit_or, andn_bit]; cases out.testBit j <;> cases (stN m (i : Int) s).testBit j <;> rfl
  have hsub : SubN out (out ||| andn (stN m (i : Int) s) out) := fun j hj => by rw [hbit, hj]; rfl
  refine ⟨hsub _ h.has, fun j hj => ?_, fun C hC hcl j hj => ?_, fun u hu => ?_, fun y hy => ?_⟩
  · rw [hbit, Bool.or_eq_true] at hj
    rcases hj with hj | hj
    · exact h.inm j hj
    · exact stN_in ok _ s j hj
  · have ih := h.least C hC hcl
    rw [hbit, Bool.or_eq_true] at hj
    rcases hj with hj | hj
    · exact ih j hj
    · exact hcl i (ih i hi) j hj
  · rw [List.mem_append] at hu
    rcases hu with hu | hu
    · obtain ⟨j, hj, hb⟩ := h.sub u (by simp [hu])
      exact ⟨j, hj, hsub j hb⟩
    · obtain ⟨j, _, hb, rfl⟩ := (in_mem _ _).1 hu
      refine ⟨j, rfl, ?_⟩
      rw [andn_bit, Bool.and_eq_true] at hb
      rw [hbit, hb.1]; simp
  · by_cases hyi : y = i
    · right
      subst hyi
      intro j hj
      rw [hbit, hj]; simp
    · rw [hbit, Bool.or_eq_true] at hy
      by_cases hyo : out.testBit y = true
      · rcases h.done y hyo with h' | h'
        · left
          rw [List.mem_append]; left
          rcases List.mem_cons.1 h' with h' | h'
          · exact absurd (by omega) hyi
          · exact h'
        · exact .inr fun j hj => hsub j (h' j hj)
      · left
        have hst : (stN m (i : Int) s).testBit y = true := by rcases hy with hy | hy; · exact absurd hy hyo
                                                              · exact hy
        rw [List.mem_append]; right
        refine (in_mem _ _).2 ⟨y, ?_, ?_, rfl⟩
        · have := bit_lt (n := 12) (stN_lt ok _ s) hst; omega
        · rw [andn_bit, hst]; simp [hyo]
/-- How much is left to do. -/
theorem popN_add {a b : Nat} (h : ∀ i, a.testBit i = true → b.testBit i = false) : popN (a ||| b) = popN a + popN b := by
  unfold popN
  induction (List.range 12) with
  | nil => rfl
  | cons x l ih =>
    simp only [List.filter_cons, Nat.testBit_or] at ih ⊢
    cases ha : a.testBit x
    · cases hb : b.testBit x <;> simp [ih] <;> omega
    · rw [h x ha]; simp [ih]; omega
def srM (out : Nat) (n : Nat) : Nat := (12 - popN out) * 2 + n
theorem sr_less {out st : Nat} {l : List Int} (hs : st < 4096) : srM (out ||| andn st out) (l ++ mem (andn st out)).length < srM out (l.length + 1) := by
  have h1 : popN (out ||| andn st out) = popN out + popN (andn st out) := popN_add fun i hi => by rw [andn_bit, hi]; simp
  have h2 : (mem (andn st out)).length = popN (andn st out) := mem_popN (andn_lt (n := 12) hs)
  have h3 := popN_le (out ||| andn st out)
  unfold srM
  rw [List.length_append, h2]
  omega
/-! What one has at last -/
def gainN (m : Mz) (s : Nat) : Nat := s ||| keyN m (reachN m 0 s)
def gK (m : Mz) (s : Nat) : Nat → Nat
  | 0 => s
  | k + 1 => gainN m (gK m s k)
def lastN (m : Mz) (s : Nat) : Nat := gK m s 64
theorem gK_lt {m : Mz} (ok : MzOk m) {s : Nat} (hs : s < 64) : ∀ k, gK m s k < 64
  | 0 => hs
  | k + 1 => Nat.or_lt_two_pow (n := 6) (gK_lt ok hs k) (keysL_lt ok _)
theorem gK_stay {m : Mz} {s k : Nat} (h : gainN m (gK m s k) = gK m s k) : ∀ j, gK m s (k + j) = gK m s k
  | 0 => rfl
  | j + 1 => by
    show gainN m (gK m s (k + j)) = _
    rw [gK_stay h j]; exact h
theorem lastN_eq {m : Mz} (ok : MzOk m) {s k : Nat} (hs : s < 64) (hk : k ≤ gK m s k) (h : gainN m (gK m s k) = gK m s k) : lastN m s = gK m s k := by
  have := gK_lt ok hs k
  unfold lastN
  rw [show 64 = k + (64 - k) from by omega, gK_stay h]
theorem gain_grows {m : Mz} {s : Nat} (h : gainN m s ≠ s) : s < gainN m s := by
  have : s ≤ gainN m s := Nat.left_le_or
  omega
/-- The nodes that are reached at last. -/
def nodesN (m : Mz) (s : Nat) : Nat := reachN m 0 (lastN m s)
def winB (m : Mz) (s : Nat) : Bool := (nodesN m s).testBit (m.size - 1).toNat
/-- A maze whose keys are cut down to a set. -/
def cutM (m : Mz) (s : Nat) : Mz := ⟨m.size, m.doors, m.keys.map fun k => ((k.toNat &&& s : Nat) : Int)⟩
theorem cutM_ok {m : Mz} (ok : MzOk m) (s : Nat) : MzOk (cutM m s) := by
  refine ⟨ok.s1, ok.s2, ok.nd, by simp [cutM, ok.nk], ok.dr, fun k hk => ?_⟩
  simp only [cutM, List.length_map] at hk
  have := key_facts ok hk
  show setB (m.keys.map _)[k]! = true
  rw [getElem!_pos _ k (by simpa using hk), List.getElem_map, setB_true]
  rw [getElem!_pos m.keys k hk] at this
  have h2 : m.keys[k].toNat &&& s < 64 := Nat.lt_of_le_of_lt Nat.and_le_left (by omega)
  omega
/-- Does a set win? -/
def setWinB (m : Mz) (s : Nat) : Bool := winB (cutM m s) 0
end Go.KD
