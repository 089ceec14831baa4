/- A search that looks at its doors one after another. No program is named here. -/
import Derived.Test.YtmilpahggceemaaKdReach
import Derived.Test.YtmilpahggceemaaKdSteps2
set_option linter.unusedVariables false
set_option linter.unusedSimpArgs false
namespace Go.KD
open Go.RowKit
theorem Sr.step2 {m : Mz} (ok : MzOk m) {s x out : Nat} {t : Int} {l N : List Int} (h : Sr m s x out (t :: l)) (h1 : ∀ z ∈ N, ∃ i : Nat, z = i ∧ (out ||| stN m t s).testBit i = true) (h2 : ∀ i : Nat, (out ||| stN m t s).testBit i = true → out.testBit i = true ∨ (i : Int) ∈ N) : Sr m s x (out ||| stN m t s) (l ++ N) := by
  obtain ⟨i, rfl, hi⟩ := h.sub t (by simp)
  have hbit : ∀ j, (out ||| stN m (i : Int) s).testBit j = (out.testBit j || (stN m (i : Int) s).testBit j) := fun j => Nat.testBit_or ..
  have hsub : SubN out (out ||| stN m (i : Int) s) := fun j hj => by rw [hbit, hj]; rfl
  refine ⟨hsub _ h.has, fun j hj => ?_, fun C hC hcl j hj => ?_, fun u hu => ?_, fun y hy => ?_⟩
  · rw [hbit, Bool.or_eq_true] at hj
    rcases hj with hj | hj
    · exact h.inm j hj
    · exact stN_in ok _ s j hj
  · have ih := h.least C hC hcl
    rw [hbit, Bool.or_eq_true] at hj
    rcases hj with hj | hj
    · exact ih j hj
    · exact hcl i (ih i hi) j hj
  · rw [List.mem_append] at hu
    rcases hu with hu | hu
    · obtain ⟨j, hj, hb⟩ := h.sub u (by simp [hu])
      exact ⟨j, hj, hsub j hb⟩
    · exact h1 u hu
  · by_cases hyi : y = i
    · right
      subst hyi
      intro j hj
      rw [hbit, hj]; simp
    · rcases h2 y hy with hyo | hyn
      · rcases h.done y hyo with h' | h'
        · left
          rw [List.mem_append]; left
          rcases List.mem_cons.1 h' with h' | h'
          · exact absurd (by omega) hyi
          · exact h'
        · exact .inr fun j hj => hsub j (h' j hj)
      · left; rw [List.mem_append]; right; exact hyn
/-- What the first k doors have added to a search at node t. -/
structure Dr (m : Mz) (s out : Nat) (t : Int) (k out' : Nat) (N : List Int) : Prop where
  eq : out' = out ||| stK m.doors t s k
  sub : ∀ z ∈ N, ∃ i : Nat, z = i ∧ out'.testBit i = true
  has : ∀ i : Nat, out'.testBit i = true → out.testBit i = true ∨ (i : Int) ∈ N
  len : N.length + popN out = popN out'
theorem Dr.start {m : Mz} {s out : Nat} {t : Int} : Dr m s out t 0 out [] := ⟨by simp [stK], fun z hz => absurd hz List.not_mem_nil, fun i hi => .inl hi, by simp⟩
theorem pop_one : ∀ y, y < 12 → popN (2 ^ y) = 1 := by decide
/-- The door k, seen from t: is it open and at t, and where does it lead? -/
def doorAt (m : Mz) (s : Nat) (t : Int) (k : Nat) : Bool := subB m.doors[k]!.2.2.toNat s && (m.doors[k]!.1 == t || m.doors[k]!.2.1 == t)
theorem Dr.skip {m : Mz} {s out : Nat} {t : Int} {k out' : Nat} {N : List Int} (h : Dr m s out t k out' N) (hk : k < m.doors.length) (hd : doorAt m s t k = false) : Dr m s out t (k + 1) out' N := by
  refine ⟨?_, h.sub, h.has, h.len⟩
  rw [h.eq, st_step hk]
  unfold doorAt at hd
  unfold joinD
  cases hs : subB m.doors[k]!.2.2.toNat s
  · simp
  · rw [hs, Bool.true_and, Bool.or_eq_false_iff] at hd
    have a : ¬ (m.doors[k]!.1 = t) := by simpa using hd.1
    have b : ¬ (m.doors[k]!.2.1 = t) := by simpa using hd.2
    rw [if_pos rfl, if_neg b, if_neg a]
theorem door_step {m : Mz} (ok : MzOk m) {s : Nat} {t : Int} {k : Nat} (hk : k < m.doors.length) (hd : doorAt m s t k = true) (acc : Nat) : joinD t s acc m.doors[k]! = setN acc (m.doors[k]!.1 + m.doors[k]!.2.1 - t) := by
  obtain ⟨a, b, c, hg⟩ : ∃ a b c, m.doors[k]! = (a, b, c) := ⟨_, _, _, rfl⟩
  have f := door_facts ok hk hg
  unfold doorAt at hd
  rw [hg] at hd ⊢
  rw [Bool.and_eq_true, Bool.or_eq_true, beq_iff_eq, beq_iff_eq] at hd
  dsimp only at hd ⊢
  unfold joinD
  dsimp only
  rw [hd.1]
  rcases hd.2 with ha | hb
  · have hb : ¬ (b = t) := by omega
    rw [if_pos rfl, if_neg hb, if_pos ha]; congr 1; omega
  · have ha : ¬ (a = t) := by omega
    rw [if_pos rfl, if_pos hb, if_neg ha]; congr 1; omega
theorem or_setN (a b : Nat) (y : Int) : a ||| setN b y = setN (a ||| b) y := by unfold setN; rw [Nat.or_assoc]
theorem Dr.old {m : Mz} (ok : MzOk m) {s out : Nat} {t : Int} {k out' : Nat} {N : List Int} (h : Dr m s out t k out' N) (hk : k < m.doors.length) (hd : doorAt m s t k = true) {y : Nat} (hy : m.doors[k]!.1 + m.doors[k]!.2.1 - t = y) (hb : out'.testBit y = true) : Dr m s out t (k + 1) out' N := by
  refine ⟨?_, h.sub, h.has, h.len⟩
  rw [st_step hk, door_step ok hk hd, or_setN, ← h.eq, hy]
  apply Nat.eq_of_testBit_eq
  intro i
  rw [setN_bit]
  by_cases hi : y = i
  · subst hi; rw [hb]; rfl
  · simp [hi]
theorem Dr.new {m : Mz} (ok : MzOk m) {s out : Nat} {t : Int} {k out' : Nat} {N : List Int} (h : Dr m s out t k out' N) (hk : k < m.doors.length) (hd : doorAt m s t k = true) {y : Nat} (hy12 : y < 12) (hy : m.doors[k]!.1 + m.doors[k]!.2.1 - t = y) (hb : out'.testBit y = false) : Dr m s out t (k + 1) (out' ||| 2 ^ y) (N ++ [(y : Int)]) := by
  have hbit : ∀ i, (out' ||| 2 ^ y).testBit i = (out'.testBit i || decide (y = i)) := fun i => by rw [Nat.testBit_or, Nat.testBit_two_pow]
  refine ⟨?_, fun z hz => ?_, fun i hi => ?_, ?_⟩
  · rw [st_step hk, door_step ok hk hd, or_setN, ← h.eq, hy]
    unfold setN; simp
  · rw [List.mem_append] at hz
    rcases hz with hz | hz
    · obtain ⟨i, h1, h2⟩ := h.sub z hz
      exact ⟨i, h1, by rw [hbit, h2]; rfl⟩
    · exact ⟨y, by simpa using hz, by rw [hbit]; simp⟩
  · rw [hbit, Bool.or_eq_true] at hi
    rcases hi with hi | hi
    · rcases h.has i hi with h' | h'
      · exact .inl h'
      · exact .inr (List.mem_append_left _ h')
    · have : y = i := by simpa using hi
      right; rw [List.mem_append]; right; simp [this]
  · have h1 := h.len
    have h2 : popN (out' ||| 2 ^ y) = popN out' + popN (2 ^ y) := popN_add fun i hi => by
      rw [Nat.testBit_two_pow]
      have : y ≠ i := fun e => by rw [← e, hb] at hi; cases hi
      simpa using this
    rw [h2, pop_one y hy12, List.length_append]
    simp; omega
theorem Dr.stop {m : Mz} (ok : MzOk m) {s x out out' : Nat} {t : Int} {l N : List Int} (h : Sr m s x out (t :: l)) (d : Dr m s out t m.doors.length out' N) : Sr m s x out' (l ++ N) := by
  have e : out' = out ||| stN m t s := d.eq
  have h1 := d.sub
  have h2 := d.has
  rw [e] at h1 h2 ⊢
  exact h.step2 ok h1 h2
theorem put_mem0 {O y : Nat} (hy : y < 12) : putL (mem O) (y : Int) = mem (O ||| 2 ^ y) := put_mem [] (.inl rfl) O y (by omega)
theorem hasI_bit {O y : Nat} (hO : O < 4096) : hasI (mem O) (y : Int) = O.testBit y := by
  rw [Bool.eq_iff_iff, hasI_iff, hasI_mem (by omega)]
  simp
end Go.KD
