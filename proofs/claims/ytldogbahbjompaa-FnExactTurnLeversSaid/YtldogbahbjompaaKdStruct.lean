/- Results that are mazes or works: the marks that the laws leave in them, and how the laws read them again. -/
import Derived.Test.YtldogbahbjompaaKdChg
set_option linter.unusedVariables false
set_option linter.unusedSimpArgs false
namespace Go.KD
open Go.RowKit
def mkMz (m : Mz) (k : Int) : Mz := ⟨m.size, marks3 m.doors.length k, marks m.keys.length (k + (m.doors.length : Int) * 3)⟩
def mkWk (m : Wk) (k : Int) : Wk := ⟨m.size, marks4 m.gates.length k, marks m.pulls.length (k + (m.gates.length : Int) * 4)⟩
theorem MzOwn.chg {lo hi lo' hi' : Nat} {w w' : World} {v : Value} {m : Mz} (h : MzOwn lo hi w v m) (hc : Chg lo' hi' w w') (hd : hi ≤ lo' ∨ hi' ≤ lo) : MzOwn lo hi w' v m := by
  obtain ⟨e3, e1, vd, vk, hv, o1, o2, h4⟩ := h
  exact ⟨e3, e1, vd, vk, hv, o1.chg hc hd, o2.chg hc hd, h4⟩
theorem WkOwn.chg {lo hi lo' hi' : Nat} {w w' : World} {v : Value} {m : Wk} (h : WkOwn lo hi w v m) (hc : Chg lo' hi' w w') (hd : hi ≤ lo' ∨ hi' ≤ lo) : WkOwn lo hi w' v m := by
  obtain ⟨e3, e1, vd, vk, hv, o1, o2, h4⟩ := h
  exact ⟨e3, e1, vd, vk, hv, o1.chg hc hd, o2.chg hc hd, h4⟩
end Go.KD
namespace Go.Proofs.Ytldogbahbjompaa
open Go.RowKit Go.KD
attribute [local go_sem] later_cell later_frozen
set_option maxHeartbeats 1000000 in
theorem markMaze2_c (lo hi : Nat) (v : Value) (m : Mz) (k0 : Int) (w : World) (hm : MzOwn lo hi w v m) (hhi : hi ≤ w.heap.size) (nd : m.doors.length ≤ 1048576) (nk : m.keys.length ≤ 1048576) (h0 : 0 ≤ k0) (h1 : k0 ≤ 100000000) : Calls Try.prog 36 #[v, .int .i64 k0] w fun e w' =>
    e = .returned (.int .i64 (k0 + (m.doors.length : Int) * 3 + m.keys.length)) ∧ MzOwn lo hi w' v (mkMz m k0) ∧ Chg lo hi w w' := by
  obtain ⟨e3, e1, vd, vk, rfl, o1, o2, hap⟩ := hm
  obtain ⟨s, d, k⟩ := m
  dsimp only at *
  obtain ⟨ad, cd, rfl⟩ := o1.slice
  obtain ⟨ak, ck, rfl⟩ := o2.slice
  have HO1 := Lib.hid (o1.later ((Below.refl w.heap.size w).alloc (Nat.le_refl _) (.cells #[.int .i64 s, .slice ad d.length cd, .slice ak k.length ck] 29)) hhi)
  have HO2 := Lib.hid (o2.later ((Below.refl w.heap.size w).alloc (Nat.le_refl _) (.cells #[.int .i64 s, .slice ad d.length cd, .slice ak k.length ck] 29)) hhi)
  have HA := Lib.hid hap
  clear o1 o2 hap
  go_enter Try.func36, Try.ntmps36
  go_wp2_with fail
  refine (markIntA3S_c lo _ _ e3 _ d _ _ rfl HO1.out.row nd h0 (by omega)).mono ?_
  rintro e w1 ⟨rfl, hr1, hg1⟩
  have HC1 : Hid (Chg lo hi (w.alloc (.cells #[.int .i64 s, .slice ad d.length cd, .slice ak k.length ck] 29)) w1) := Chg.of_grown hg1 HO1.out.blocks
  have q2 : w1.cell? ⟨w.heap.size, 2, none⟩ = some (.slice ak k.length ck) := by rw [HC1.out.cell (p := ⟨w.heap.size, 2, none⟩) (by simp) (.inr hhi)]; simp [go_sem]
  have HO3 := Lib.hid (HO2.out.grown_ne hg1 (fun g hg e => HA.out g e hg))
  have HR1 : Hid (Own lo hi w1 e3 3 (.slice ad d.length cd) d.length (c3 (marks3 d.length k0))) := Own.mk hr1 HO1.out.top
  clear hr1 hg1
  go_wp2_with fail
  refine (markIntS_c lo _ _ e1 _ k _ _ rfl HO3.out.row nk (by omega) (by omega)).mono ?_
  rintro e w2 ⟨rfl, hr2, hg2⟩
  have HR2 : Hid (MzOwn lo hi w2 (.agg #[.int .i64 s, .slice ad d.length cd, .slice ak k.length ck]) (mkMz ⟨s, d, k⟩ k0)) := by
    refine ⟨e3, e1, _, _, rfl, ?_, ?_, HA.out⟩
    · have := HR1.out.grown_ne hg2 (fun g hg e => HA.out g hg e)
      simpa [mkMz] using this
    · have : Own lo hi w2 e1 1 (.slice ak k.length ck) k.length (ints (marks k.length (k0 + (d.length : Int) * 3))) := Own.mk hr2 HO3.out.top
      simpa [mkMz] using this
  have HC2 : Hid (Chg lo hi w w2) := (Chg.of_below ((Below.refl w.heap.size w).alloc (Nat.le_refl _) _)).trans (HC1.out.trans (Chg.of_grown hg2 HO3.out.blocks))
  clear hr2 hg2
  go_wp2_with fail
  go_ret
  exact ⟨rfl, HR2.out, HC2.out⟩
set_option maxHeartbeats 4000000 in
theorem heldIntA4S_c (a : Option Addr) (cap n : Nat) (k0 : Int) (w : World) (hA : D4C w a (marks4 n k0)) (hl : n ≤ 1048576) (h0 : 0 ≤ k0) (h1 : k0 ≤ 1073741824) : Calls Try.prog 76 #[.slice a n cap, .int .i64 k0] w fun e w' =>
    e = .returned (.int .i64 (k0 + (n : Int) * 4)) ∧ w = w' := by
  go_enter Try.func76, Try.ntmps76
  go_wp2
  go_loop [1, 5, 6] (fun k i _ => ∃ j : Nat, j ≤ n ∧ i = .int .i64 j ∧ k = .int .i64 (k0 + j * 4)) (fun _ i _ => n - (intOf i).toNat)
  case atStart => exact ⟨0, Nat.zero_le _, rfl, by simp⟩
  case round =>
    obtain ⟨j, hj, rfl, rfl⟩ := hrel
    by_cases hlt : j < n
    · obtain ⟨b, off, x, y, z, t, rfl, HX, hbs, c0, c1, c2, c3⟩ := hA.at j (by simpa using hlt)
      have hx := HX.out
      rw [marks4_at _ _ _ hlt] at hx
      simp only [Prod.mk.injEq] at hx
      obtain ⟨rfl, rfl, rfl, rfl⟩ := hx
      go_wp2
      refine wp_loop_rounds 5 ?_
      rw [rounds_succ]; go_wp2
      rw [rounds_succ]; go_wp2
      rw [rounds_succ]; go_wp2
      rw [rounds_succ]; go_wp2
      rw [rounds_succ]; go_wp2
      go_round
      case rel => exact ⟨j+1, by omega, by go_num, by first | go_num | (congr 1; omega)⟩
      case measure => simp [intOf]; omega
    · obtain rfl : j = n := by omega
      go_wp2
      go_ret
      exact ⟨rfl, rfl⟩
set_option maxHeartbeats 1000000 in
theorem heldWorks_c (v : Value) (m : Wk) (k0 : Int) (w : World) (hm : WkAt w v (mkWk m k0)) (h0 : 0 ≤ k0) (h1 : k0 ≤ 100000000) : Calls Try.prog 33 #[v, .int .i64 k0] w fun e w' =>
    e = .returned (.int .i64 (k0 + (m.gates.length : Int) * 4 + m.pulls.length)) ∧ Below w.heap.size w w' := by
  obtain ⟨⟨ad, cd, ak, ck, rfl, hd, hk'⟩, nd, nk⟩ := hm
  simp only [mkWk, length_marks4, length_marks] at *
  obtain ⟨s, d, k⟩ := m
  dsimp only at *
  have t1 : decide (k0 + (d.length : Int) * 4 < 0) = false := by simp; omega
  have t2 : decide (k0 + (d.length : Int) * 4 + (k.length : Int) < 0) = false := by simp; omega
  go_enter Try.func33, Try.ntmps33
  go_wp2_with fail
  refine (heldIntA4S_c _ _ _ _ _ (hd.later (by (repeat (first | exact Below.refl _ _ | apply Below.drew | apply below_drewN | (refine Below.setCell ?_ (by first | omega | (simp; done) | (simp; omega) | (dsimp only; omega)) _) | (refine Below.alloc ?_ (by first | omega | (simp; done) | (simp; omega) | (dsimp only; omega)) _))))) nd h0 (by omega)).mono ?_
  rintro e w1 ⟨rfl, rfl⟩
  go_wp2_with fail
  refine (heldIntS_c _ _ _ _ _ (hk'.later (by (repeat (first | exact Below.refl _ _ | apply Below.drew | apply below_drewN | (refine Below.setCell ?_ (by first | omega | (simp; done) | (simp; omega) | (dsimp only; omega)) _) | (refine Below.alloc ?_ (by first | omega | (simp; done) | (simp; omega) | (dsimp only; omega)) _))))) nk (by omega) (by omega)).mono ?_
  rintro e w2 ⟨rfl, rfl⟩
  go_wp2_with fail
  go_ret
  exact ⟨rfl, by (repeat (first | exact Below.refl _ _ | apply Below.drew | apply below_drewN | (refine Below.setCell ?_ (by first | omega | (simp; done) | (simp; omega) | (dsimp only; omega)) _) | (refine Below.alloc ?_ (by first | omega | (simp; done) | (simp; omega) | (dsimp only; omega)) _)))⟩
set_option maxHeartbeats 1000000 in
theorem markWorks2_c (lo hi : Nat) (v : Value) (m : Wk) (k0 : Int) (w : World) (hm : WkOwn lo hi w v m) (hhi : hi ≤ w.heap.size) (nd : m.gates.length ≤ 1048576) (nk : m.pulls.length ≤ 1048576) (h0 : 0 ≤ k0) (h1 : k0 ≤ 100000000) : Calls Try.prog 28 #[v, .int .i64 k0] w fun e w' =>
    e = .returned (.int .i64 (k0 + (m.gates.length : Int) * 4 + m.pulls.length)) ∧ WkOwn lo hi w' v (mkWk m k0) ∧ Chg lo hi w w' := by
  obtain ⟨e3, e1, vd, vk, rfl, o1, o2, hap⟩ := hm
  obtain ⟨s, d, k⟩ := m
  dsimp only at *
  obtain ⟨ad, cd, rfl⟩ := o1.slice
  obtain ⟨ak, ck, rfl⟩ := o2.slice
  have HO1 := Lib.hid (o1.later ((Below.refl w.heap.size w).alloc (Nat.le_refl _) (.cells #[.int .i64 s, .slice ad d.length cd, .slice ak k.length ck] 40)) hhi)
  have HO2 := Lib.hid (o2.later ((Below.refl w.heap.size w).alloc (Nat.le_refl _) (.cells #[.int .i64 s, .slice ad d.length cd, .slice ak k.length ck] 40)) hhi)
  have HA := Lib.hid hap
  clear o1 o2 hap
  go_enter Try.func28, Try.ntmps28
  go_wp2_with fail
  refine (markIntA4S_c lo _ _ e3 _ d _ _ rfl HO1.out.row nd h0 (by omega)).mono ?_
  rintro e w1 ⟨rfl, hr1, hg1⟩
  have HC1 : Hid (Chg lo hi (w.alloc (.cells #[.int .i64 s, .slice ad d.length cd, .slice ak k.length ck] 40)) w1) := Chg.of_grown hg1 HO1.out.blocks
  have q2 : w1.cell? ⟨w.heap.size, 2, none⟩ = some (.slice ak k.length ck) := by rw [HC1.out.cell (p := ⟨w.heap.size, 2, none⟩) (by simp) (.inr hhi)]; simp [go_sem]
  have HO3 := Lib.hid (HO2.out.grown_ne hg1 (fun g hg e => HA.out g e hg))
  have HR1 : Hid (Own lo hi w1 e3 4 (.slice ad d.length cd) d.length (c4 (marks4 d.length k0))) := Own.mk hr1 HO1.out.top
  clear hr1 hg1
  go_wp2_with fail
  refine (markIntS_c lo _ _ e1 _ k _ _ rfl HO3.out.row nk (by omega) (by omega)).mono ?_
  rintro e w2 ⟨rfl, hr2, hg2⟩
  have HR2 : Hid (WkOwn lo hi w2 (.agg #[.int .i64 s, .slice ad d.length cd, .slice ak k.length ck]) (mkWk ⟨s, d, k⟩ k0)) := by
    refine ⟨e3, e1, _, _, rfl, ?_, ?_, HA.out⟩
    · have := HR1.out.grown_ne hg2 (fun g hg e => HA.out g hg e)
      simpa [mkWk] using this
    · have : Own lo hi w2 e1 1 (.slice ak k.length ck) k.length (ints (marks k.length (k0 + (d.length : Int) * 4))) := Own.mk hr2 HO3.out.top
      simpa [mkWk] using this
  have HC2 : Hid (Chg lo hi w w2) := (Chg.of_below ((Below.refl w.heap.size w).alloc (Nat.le_refl _) _)).trans (HC1.out.trans (Chg.of_grown hg2 HO3.out.blocks))
  clear hr2 hg2
  go_wp2_with fail
  go_ret
  exact ⟨rfl, HR2.out, HC2.out⟩
end Go.Proofs.Ytldogbahbjompaa
