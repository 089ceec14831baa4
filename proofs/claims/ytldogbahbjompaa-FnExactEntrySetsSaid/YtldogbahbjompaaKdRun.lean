/- Plans: impl.runPlan. -/
import Derived.Test.YtldogbahbjompaaKdDo
set_option linter.unusedVariables false
set_option linter.unusedSimpArgs false
namespace Go.KD
/-- The visit behind the first k acts of a plan; none if it is none. -/
def runK (m : Wk) (p : List Int) : Nat → Option (Int × Int)
  | 0 => some (0, 0)
  | k + 1 => match runK m p k with
    | none => none
    | some (x, l) => if hasI (actsL m x l) p[k]! then some (doP m x l p[k]!) else none
def runP (m : Wk) (p : List Int) : Int × Int × Bool :=
  if p.length ≤ 60 then (match runK m p p.length with | some (x, l) => (x, l, true) | none => (0, 0, false)) else (0, 0, false)
theorem act_range {m : Wk} (ok : WkOk m) {x l : Nat} {a : Int} (hx : (x : Int) < m.size) (h : hasI (actsL m x l) a = true) : a = -1 ∨ (0 ≤ a ∧ a < m.size) := by
  rw [hasI_iff] at h
  unfold actsL at h
  rw [List.mem_append] at h
  rcases h with h | h
  · split at h
    · cases h
    · left; simpa using h
  · right
    have : ∀ k, k ≤ m.gates.length → ∀ i : Nat, (nbK m.gates x l k).testBit i = true → (i : Int) < m.size := by
      intro k
      induction k with
      | zero => intro _ i hi; simp [nbK] at hi
      | succ k ih =>
        intro hk i hi
        rw [nb_step (by omega)] at hi
        obtain ⟨a, b, c, d, hg⟩ : ∃ a b c d, m.gates[k]! = (a, b, c, d) := ⟨_, _, _, _, rfl⟩
        have f := gate_facts ok (by omega) hg
        have ih := ih (by omega) i
        rw [hg] at hi
        have hs : ∀ (s : Nat) (z : Int), 0 ≤ z → z < m.size → (setN s z).testBit i = true → s.testBit i = true ∨ (i : Int) < m.size := by
          intro s z z0 z1 h
          unfold setN at h
          rw [Nat.testBit_or, Bool.or_eq_true, Nat.testBit_two_pow] at h
          rcases h with h | h
          · exact .inl h
          · right; have : z.toNat = i := by simpa using h
            omega
        unfold adjG at hi
        dsimp only at hi
        split at hi
        · split at hi <;> split at hi
          · rcases hs _ _ (by omega) (by omega) hi with h | h
            · rcases hs _ _ (by omega) (by omega) h with h | h
              · exact ih h
              · exact h
            · exact h
          · rcases hs _ _ (by omega) (by omega) hi with h | h
            · exact ih h
            · exact h
          · rcases hs _ _ (by omega) (by omega) hi with h | h
            · exact ih h
            · exact h
          · exact ih hi
        · exact ih hi
    rw [in_mem] at h
    obtain ⟨i, _, h2, rfl⟩ := h
    exact ⟨by omega, this _ (Nat.le_refl _) i h2⟩
theorem xorV_small {a b : Int} (ha : 0 ≤ a ∧ a < 64) (hb : 0 ≤ b ∧ b < 64) : 0 ≤ xorV a b ∧ xorV a b < 64 := by
  have : a.toNat ^^^ b.toNat < 2 ^ 6 := Nat.xor_lt_two_pow (by omega) (by omega)
  unfold xorV
  omega
/-- A plan leads to visits. -/
theorem runK_ok {m : Wk} (ok : WkOk m) (p : List Int) : ∀ k x l, runK m p k = some (x, l) → ∃ xn ln : Nat, x = xn ∧ l = ln ∧ (xn : Int) < m.size ∧ ln < 64
  | 0, x, l, h => by
    simp only [runK, Option.some.injEq, Prod.mk.injEq] at h
    obtain ⟨rfl, rfl⟩ := h
    have := ok.s1
    exact ⟨0, 0, rfl, rfl, by simp; omega, by omega⟩
  | k + 1, x, l, h => by
    unfold runK at h
    split at h
    · cases h
    · rename_i x0 l0 h0
      obtain ⟨xn, ln, rfl, rfl, hx, hl⟩ := runK_ok ok p k _ _ h0
      split at h
      · rename_i ha
        have hp := ok.pl xn (by have := ok.np; omega)
        obtain ⟨p0, p1⟩ := setB_true.1 hp
        have hr := act_range ok hx ha
        simp only [Option.some.injEq] at h
        unfold doP at h
        split at h
        · cases h
          obtain ⟨g0, g1⟩ := xorV_small (a := (ln : Int)) (b := m.pulls[xn]!) (by omega) (by omega)
          refine ⟨xn, (xorV ln m.pulls[xn]!).toNat, rfl, ?_, hx, by omega⟩
          simp only [Int.toNat_natCast]
          omega
        · cases h
          exact ⟨p[k]!.toNat, ln, by omega, rfl, by omega, hl⟩
      · cases h
theorem runK_none {m : Wk} {p : List Int} {k : Nat} (h : runK m p k = none) : ∀ j, runK m p (k + j) = none
  | 0 => h
  | j + 1 => by show runK m p ((k + j) + 1) = none; unfold runK; rw [runK_none h j]
end Go.KD
namespace Go.Proofs.Ytldogbahbjompaa
open Go.RowKit Go.KD
attribute [local go_sem] later_cell later_frozen
