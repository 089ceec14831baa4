/- markWorks: the marks of works. -/
import Derived.Test.YtldogbahbjompaaKdChg
set_option linter.unusedVariables false
set_option linter.unusedSimpArgs false
namespace Go.Proofs.Ytldogbahbjompaa
open Go.RowKit Go.KD
attribute [local go_sem] later_cell later_frozen
set_option maxHeartbeats 1000000 in
theorem markWorks_c (lo hi : Nat) (v : Value) (m : Wk) (k0 : Int) (w : World) (hm : WkOwn lo hi w v m) (hhi : hi ≤ w.heap.size) (nd : m.gates.length ≤ 1048576) (nk : m.pulls.length ≤ 1048576) (h0 : 0 ≤ k0) (h1 : k0 ≤ 100000000) : Calls Try.prog 28 #[v, .int .i64 k0] w fun e w' =>
    e = .returned (.int .i64 (k0 + (m.gates.length : Int) * 4 + m.pulls.length)) ∧ Chg lo hi w w' := by
  obtain ⟨e3, e1, vd, vk, rfl, o1, o2, hap⟩ := hm
  obtain ⟨s, d, k⟩ := m
  dsimp only at *
  obtain ⟨ad, cd, rfl⟩ := o1.slice
  obtain ⟨ak, ck, rfl⟩ := o2.slice
  have HO1 := Lib.hid (o1.later ((Below.refl w.heap.size w).alloc (Nat.le_refl _) (.cells #[.int .i64 s, .slice ad d.length cd, .slice ak k.length ck] 40)) hhi)
  have HO2 := Lib.hid (o2.later ((Below.refl w.heap.size w).alloc (Nat.le_refl _) (.cells #[.int .i64 s, .slice ad d.length cd, .slice ak k.length ck] 40)) hhi)
  have HA := Lib.hid hap
  clear o1 o2 hap
  go_enter Try.func28, Try.ntmps28
  go_wp2_with fail
  refine (markIntA4S_c lo _ _ e3 _ d _ _ rfl HO1.out.row nd h0 (by omega)).mono ?_
  rintro e w1 ⟨rfl, hr1, hg1⟩
  have HC1 : Hid (Chg lo hi (w.alloc (.cells #[.int .i64 s, .slice ad d.length cd, .slice ak k.length ck] 40)) w1) := Chg.of_grown hg1 HO1.out.blocks
  have q2 : w1.cell? ⟨w.heap.size, 2, none⟩ = some (.slice ak k.length ck) := by rw [HC1.out.cell (p := ⟨w.heap.size, 2, none⟩) (by simp) (.inr hhi)]; simp [go_sem]
  have HO3 := Lib.hid (HO2.out.grown_ne hg1 (fun g hg e => HA.out g e hg))
  clear hr1 hg1
  go_wp2_with fail
  refine (markIntS_c lo _ _ e1 _ k _ _ rfl HO3.out.row nk (by omega) (by omega)).mono ?_
  rintro e w2 ⟨rfl, hr2, hg2⟩
  go_wp2_with fail
  go_ret
  exact ⟨rfl, (Chg.of_below ((Below.refl w.heap.size w).alloc (Nat.le_refl _) _)).trans (HC1.out.trans (Chg.of_grown hg2 HO3.out.blocks))⟩
end Go.Proofs.Ytldogbahbjompaa
