/- The least numbers of acts to the goal: plain words. -/
import Derived.Test.YtkhackdbnmcffaaKdWg
set_option linter.unusedVariables false
set_option linter.unusedSimpArgs false
namespace Go.KD
open Go.RowKit
/-- The visits of the goal. -/
def goalS (m : Wk) : List Nat := (List.range 64).map fun l => (m.pulls.length - 1) * 64 + l
def goalF (m : Wk) : List Bn := bfF (nxW m) ((goalS m).map fun s => ((s, 0) : Bn))
def goalD (m : Wk) (i : Nat) : Int := bD (goalF m) i
def lstK (v : Nat → Int) : Nat → Int
  | 0 => -1
  | k + 1 => if decide (0 ≤ v k) && (decide (lstK v k < 0) || decide (v k < lstK v k)) then v k else lstK v k
theorem goalS_in {m : Wk} {s : Nat} : s ∈ goalS m ↔ ∃ l, l < 64 ∧ s = (m.pulls.length - 1) * 64 + l := by
  unfold goalS
  simp only [List.mem_map, List.mem_range]
  constructor
  · rintro ⟨l, h1, h2⟩; exact ⟨l, h1, h2.symm⟩
  · rintro ⟨l, h1, h2⟩; exact ⟨l, h1, h2.symm⟩
theorem goalS_nd (m : Wk) : (goalS m).Nodup := by
  unfold goalS
  rw [List.Nodup, List.pairwise_map]
  exact List.nodup_range.imp fun h he => h (by omega)
theorem goalS_sz {m : Wk} (ok : WkOk m) : ∀ s ∈ goalS m, ((s / 64 : Nat) : Int) < m.size := by
  intro s hs
  obtain ⟨l, hl, rfl⟩ := goalS_in.1 hs
  have h1 := ok.np
  have h2 := ok.s1
  omega
theorem goalS_lt {m : Wk} (ok : WkOk m) : ∀ s ∈ goalS m, s < 768 := by
  intro s hs
  have h := goalS_sz ok s hs
  have := ok.s2
  omega
theorem bf_at {m : Wk} (ok : WkOk m) {S : List Nat} (hS : S.Nodup) (hl : ∀ s ∈ S, s < 768) : BOk (nxW m) S (bfF (nxW m) (S.map fun s => ((s, 0) : Bn))) 768 0 := bfE_ok (nxW_lt ok) (b_start hS hl) 768
theorem goal_ans {m : Wk} (ok : WkOk m) (i : Nat) : bAns (nxW m) (goalS m) i (goalD m i) := bf_ans (bf_at ok (goalS_nd m) (goalS_lt ok)) i
theorem one_ans {m : Wk} (ok : WkOk m) {s : Nat} (hs : s < 768) (i : Nat) : bAns (nxW m) [s] i (bD (bfF (nxW m) [((s, 0) : Bn)]) i) := by
  have := bf_ans (bf_at ok (S := [s]) (by simp) (fun t ht => by rw [List.mem_singleton] at ht; omega)) i
  exact this
theorem lst_spec (v : Nat → Int) : ∀ k, (lstK v k = -1 ∧ ∀ j, j < k → v j < 0) ∨ (0 ≤ lstK v k ∧ (∃ j, j < k ∧ lstK v k = v j) ∧ ∀ j, j < k → 0 ≤ v j → lstK v k ≤ v j)
  | 0 => .inl ⟨rfl, fun j hj => by omega⟩
  | k + 1 => by
    have ih := lst_spec v k
    show ((if decide (0 ≤ v k) && (decide (lstK v k < 0) || decide (v k < lstK v k)) then v k else lstK v k) = -1 ∧ _) ∨ (0 ≤ (if decide (0 ≤ v k) && (decide (lstK v k < 0) || decide (v k < lstK v k)) then v k else lstK v k) ∧ (∃ j, j < k + 1 ∧ (if decide (0 ≤ v k) && (decide (lstK v k < 0) || decide (v k < lstK v k)) then v k else lstK v k) = v j) ∧ _)
    by_cases h : (decide (0 ≤ v k) && (decide (lstK v k < 0) || decide (v k < lstK v k))) = true
    · simp only [lstK]
      rw [if_pos h]
      simp only [Bool.and_eq_true, Bool.or_eq_true, decide_eq_true_eq] at h
      right
      refine ⟨h.1, ⟨k, by omega, rfl⟩, fun j hj hv => ?_⟩
      rcases Nat.lt_or_ge j k with hjk | hjk
      · rcases ih with ⟨h1, h2⟩ | ⟨h1, h2, h3⟩
        · have := h2 j hjk; omega
        · have := h3 j hjk hv
          rcases h.2 with h4 | h4 <;> omega
      · obtain rfl : j = k := by omega
        exact Int.le_refl _
    · simp only [lstK]
      rw [if_neg h]
      simp only [Bool.and_eq_true, Bool.or_eq_true, decide_eq_true_eq, not_and, not_or] at h
      rcases ih with ⟨h1, h2⟩ | ⟨h1, ⟨q, hq, hq2⟩, h3⟩
      · left
        refine ⟨h1, fun j hj => ?_⟩
        rcases Nat.lt_or_ge j k with hjk | hjk
        · exact h2 j hjk
        · obtain rfl : j = k := by omega
          rcases Int.lt_or_le (v j) 0 with h4 | h4
          · exact h4
          · have := (h h4).1; omega
      · right
        refine ⟨h1, ⟨q, by omega, hq2⟩, fun j hj hv => ?_⟩
        rcases Nat.lt_or_ge j k with hjk | hjk
        · exact h3 j hjk hv
        · obtain rfl : j = k := by omega
          have := (h hv).2; omega
/-- From a visit to the goal: as many acts as back. -/
theorem goal_least {m : Wk} (ok : WkOk m) {i : Nat} (hi : i < 768) : lstK (fun s => bD (bfF (nxW m) [((i, 0) : Bn)]) ((m.pulls.length - 1) * 64 + s)) 64 = goalD m i := by
  obtain ⟨u, hu⟩ : ∃ u : Nat → Int, u = fun s => bD (bfF (nxW m) [((i, 0) : Bn)]) ((m.pulls.length - 1) * 64 + s) := ⟨_, rfl⟩
  have hv : ∀ s, bAns (nxW m) [i] ((m.pulls.length - 1) * 64 + s) (u s) := fun s => by rw [hu]; exact one_ans ok hi ((m.pulls.length - 1) * 64 + s)
  rw [← hu]
  clear hu
  refine bAns_one (nx := nxW m) (S := goalS m) (y := i) ?_ (goal_ans ok i)
  obtain ⟨t, ht⟩ : ∃ t, t = lstK u 64 := ⟨_, rfl⟩
  have hsp := lst_spec u 64
  rw [← ht] at hsp ⊢
  clear ht
  rcases hsp with ⟨h1, h2⟩ | ⟨h1, ⟨q, hq, hq2⟩, h3⟩
  · refine .inl ⟨h1, fun k s hs hw => ?_⟩
    obtain ⟨l, hl, rfl⟩ := goalS_in.1 hs
    have hr := bWalk_rev (nxW_lt ok) (nxW_sym ok) (goalS_lt ok _ hs) hw
    rcases hv l with ⟨h4, h5⟩ | ⟨h4, h5⟩
    · exact h5 k i (by simp) hr
    · have := h2 l hl
      omega
  · refine .inr ⟨h1, ?_, fun k s hs hw => ?_⟩
    · rcases hv q with ⟨h4, -⟩ | ⟨h4, ⟨s, hs, hw⟩, -⟩
      · omega
      · rw [List.mem_singleton] at hs
        subst hs
        refine ⟨_, goalS_in.2 ⟨q, hq, rfl⟩, ?_⟩
        rw [hq2]
        exact bWalk_rev (nxW_lt ok) (nxW_sym ok) hi hw
    · obtain ⟨l, hl, rfl⟩ := goalS_in.1 hs
      have hr := bWalk_rev (nxW_lt ok) (nxW_sym ok) (goalS_lt ok _ hs) hw
      rcases hv l with ⟨h4, h5⟩ | ⟨h4, -, h5⟩
      · exact absurd hr (h5 k i (by simp))
      · have h6 := h3 l hl h4
        have h7 := h5 k i (by simp) hr
        omega
noncomputable def pFewestActs (m : Wk) : Int × Bool := if worksB m then (if 0 ≤ goalD m 0 then goalD m 0 else 0, decide (0 ≤ goalD m 0)) else (0, false)
end Go.KD
