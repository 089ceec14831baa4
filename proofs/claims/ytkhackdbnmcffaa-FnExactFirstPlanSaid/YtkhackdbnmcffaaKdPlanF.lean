/- The first one of the shortest plans: plain words. -/
import Derived.Test.YtkhackdbnmcffaaKdGoal
set_option linter.unusedVariables false
set_option linter.unusedSimpArgs false
namespace Go.KD
open Go.RowKit
/-- Does an act lead one act nearer to the goal? -/
def okA (m : Wk) (x l : Nat) (a : Int) : Bool := decide (goalD m (wSt m x l a) = goalD m (x * 64 + l) - 1)
def fstI (m : Wk) (x l : Nat) : Nat := (actsL m (x : Nat) (l : Nat)).findIdx (okA m x l)
def fstA (m : Wk) (x l : Nat) : Int := (actsL m (x : Nat) (l : Nat))[fstI m x l]!
def planS (m : Wk) : Nat → List Int × Nat × Nat
  | 0 => ([], 0, 0)
  | k + 1 => ((planS m k).1 ++ [fstA m (planS m k).2.1 (planS m k).2.2], (doP m (planS m k).2.1 (planS m k).2.2 (fstA m (planS m k).2.1 (planS m k).2.2)).1.toNat, (doP m (planS m k).2.1 (planS m k).2.2 (fstA m (planS m k).2.1 (planS m k).2.2)).2.toNat)
noncomputable def pFirstPlan (m : Wk) : List Int × Bool := if worksB m && inB (goalD m 0) 0 60 then ((planS m (goalD m 0).toNat).1, true) else ([], false)
theorem goal_down {m : Wk} (ok : WkOk m) {x l : Nat} (hx : (x : Int) < m.size) (hl : l < 64) (hc : 0 < goalD m (x * 64 + l)) : ∃ a ∈ actsL m (x : Nat) (l : Nat), okA m x l a = true := by
  have hs2 := ok.s2
  have GA := goal_ans ok
  have HOK : ∀ a, okA m x l a = decide (goalD m (wSt m x l a) = goalD m (x * 64 + l) - 1) := fun _ => rfl
  obtain ⟨g, hg⟩ : ∃ g : Nat → Int, g = goalD m := ⟨_, rfl⟩
  rw [← hg] at hc GA HOK
  clear hg
  have h0 := GA (x * 64 + l)
  obtain ⟨cc, hcc⟩ : ∃ cc, cc = g (x * 64 + l) := ⟨_, rfl⟩
  rw [← hcc] at h0 hc HOK
  rcases h0 with ⟨h1, -⟩ | ⟨h1, ⟨s, hs, hw⟩, h3⟩
  · omega
  · obtain ⟨c, hcn⟩ : ∃ c, cc.toNat = c + 1 := ⟨cc.toNat - 1, by omega⟩
    rw [hcn] at hw
    obtain ⟨z, hz, hy⟩ := hw
    have hz768 := bWalk_lt (nxW_lt ok) (goalS_lt ok _ hs) hz
    have hzi := nxW_sym ok z _ hz768 hy
    obtain ⟨-, a, ha, hst⟩ := nxW_in hzi
    rw [show (x * 64 + l) / 64 = x from by omega, show (x * 64 + l) % 64 = l from by omega] at ha hst
    refine ⟨a, ha, ?_⟩
    rw [HOK, hst]
    apply decide_eq_true
    have h4 := GA z
    obtain ⟨gz, hgz⟩ : ∃ gz, gz = g z := ⟨_, rfl⟩
    rw [← hgz] at h4 ⊢
    rcases h4 with ⟨k1, k2⟩ | ⟨k1, ⟨t, ht, hwt⟩, k3⟩
    · exact absurd hz (k2 _ _ hs)
    · have e1 := k3 _ _ hs hz
      obtain ⟨gn, hgn⟩ : ∃ gn, gn = gz.toNat := ⟨_, rfl⟩
      rw [← hgn] at hwt
      have hw2 : bWalk (nxW m) (gn + 1) t (x * 64 + l) := ⟨z, hwt, hy⟩
      have e2 := h3 _ t ht hw2
      omega
theorem fstI_lt {m : Wk} (ok : WkOk m) {x l : Nat} (hx : (x : Int) < m.size) (hl : l < 64) (hc : 0 < goalD m (x * 64 + l)) : fstI m x l < (actsL m (x : Nat) (l : Nat)).length := by
  obtain ⟨a, ha, h⟩ := goal_down ok hx hl hc
  exact List.findIdx_lt_length_of_exists ⟨a, ha, h⟩
theorem fstI_ok {m : Wk} {x l : Nat} (h : fstI m x l < (actsL m (x : Nat) (l : Nat)).length) : okA m x l (actsL m (x : Nat) (l : Nat))[fstI m x l]! = true := by
  rw [getElem!_pos (actsL m (x : Nat) (l : Nat)) (fstI m x l) h]
  exact List.findIdx_getElem (w := h)
theorem fstI_no {m : Wk} {x l j : Nat} (h : j < fstI m x l) (hj : j < (actsL m (x : Nat) (l : Nat)).length) : okA m x l (actsL m (x : Nat) (l : Nat))[j]! = false := by
  rw [getElem!_pos (actsL m (x : Nat) (l : Nat)) j hj]
  have h2 := List.not_of_lt_findIdx h
  cases hh : okA m x l (actsL m (x : Nat) (l : Nat))[j]
  · rfl
  · exact absurd hh (by simpa using h2)
theorem fstA_mem {m : Wk} {x l : Nat} (h : fstI m x l < (actsL m (x : Nat) (l : Nat)).length) : fstA m x l ∈ actsL m (x : Nat) (l : Nat) := by
  unfold fstA; rw [getElem!_pos (actsL m (x : Nat) (l : Nat)) (fstI m x l) h]; exact List.getElem_mem h
theorem plan_ok {m : Wk} (ok : WkOk m) (k : Nat) (hk : (k : Int) ≤ goalD m 0) : (((planS m k).2.1 : Nat) : Int) < m.size ∧ (planS m k).2.2 < 64 ∧ goalD m ((planS m k).2.1 * 64 + (planS m k).2.2) = goalD m 0 - k ∧ (planS m k).1.length = k := by
  have HF : ∀ x l : Nat, (x : Int) < m.size → l < 64 → 0 < goalD m (x * 64 + l) → fstI m x l < (actsL m (x : Nat) (l : Nat)).length := fun x l h1 h2 h3 => fstI_lt ok h1 h2 h3
  have HOK : ∀ x l a, okA m x l a = decide (goalD m (wSt m x l a) = goalD m (x * 64 + l) - 1) := fun _ _ _ => rfl
  obtain ⟨g, hg⟩ : ∃ g : Nat → Int, g = goalD m := ⟨_, rfl⟩
  rw [← hg] at hk HF HOK ⊢
  clear hg
  induction k with
  | zero =>
    refine ⟨by have := ok.s1; show ((0 : Nat) : Int) < _; omega, by show 0 < 64; omega, ?_, rfl⟩
    show g (0 * 64 + 0) = g 0 - ((0 : Nat) : Int)
    rw [show 0 * 64 + 0 = 0 from rfl]; omega
  | succ k ih =>
    obtain ⟨h1, h2, h3, h4⟩ := ih (by omega)
    have hI := HF _ _ h1 h2 (by omega)
    have ha := fstA_mem hI
    obtain ⟨y, q, hd, hy, hq, hst⟩ := do_nat ok h1 h2 ha
    have hok := fstI_ok hI
    rw [HOK] at hok
    have hok := of_decide_eq_true hok
    have e0 : (actsL m ((planS m k).2.1 : Nat) ((planS m k).2.2 : Nat))[fstI m (planS m k).2.1 (planS m k).2.2]! = fstA m (planS m k).2.1 (planS m k).2.2 := rfl
    rw [e0, hst, h3] at hok
    have e1 : (planS m (k + 1)).2.1 = y := by show (doP m _ _ _).1.toNat = y; rw [hd]; simp
    have e2 : (planS m (k + 1)).2.2 = q := by show (doP m _ _ _).2.toNat = q; rw [hd]; simp
    rw [e1, e2]
    refine ⟨hy, hq, by rw [hok]; omega, by show ((planS m k).1 ++ [_]).length = _; simp [h4]⟩
theorem pFirstPlan_len (m : Wk) : (pFirstPlan m).1.length ≤ 1000000 := by
  unfold pFirstPlan
  split
  · rename_i h
    rw [Bool.and_eq_true, inB_true] at h
    have := plan_ok (worksB_true.1 h.1) (goalD m 0).toNat (by omega)
    dsimp only
    omega
  · simp
end Go.KD
