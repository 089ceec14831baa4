/- The law FnExactIsWorks, walked. -/
import Derived.Test.YtmapnpgjbahabaaKdValidA
import Derived.Test.YtmapnpgjbahabaaKdValidC
import Derived.Deep.RegionHeld3
set_option linter.unusedVariables false
set_option linter.unusedSimpArgs false
namespace Go.Proofs.Ytmapnpgjbahabaa
open Go.RowKit Go.KD
attribute [local go_sem] later_cell later_frozen
theorem specIsWorks_c (v : Value) (m : Wk) (w : World) (hm : WkAt w v m) : Calls Try.prog 11 #[v] w fun e w' => e = .returned (.bool (worksB m)) ∧ Below w.heap.size w w' := by
  have HM := hm
  obtain ⟨⟨ad, cd, ak, ck, rfl, hd, hk⟩, nd, nk⟩ := hm
  go_enter Try.func11, Try.ntmps11
  go_wp2_with (go_at_call 37; refine (l8Works_c _ m _ (HM.later (by (repeat (first | exact Below.refl _ _ | apply Below.drew | apply below_drewN | (refine Below.setCell ?_ (by first | omega | (simp; done) | (simp; omega) | (dsimp only; omega)) _) | (refine Below.alloc ?_ (by first | omega | (simp; done) | (simp; omega) | (dsimp only; omega)) _)))))).mono ?_; rintro e w1 ⟨rfl, hb1⟩)
  go_ret
  exact ⟨ret_bool rfl, below_then (by (repeat (first | exact Below.refl _ _ | apply Below.drew | apply below_drewN | (refine Below.setCell ?_ (by first | omega | (simp; done) | (simp; omega) | (dsimp only; omega)) _) | (refine Below.alloc ?_ (by first | omega | (simp; done) | (simp; omega) | (dsimp only; omega)) _)))) hb1⟩
set_option maxHeartbeats 4000000 in
theorem lawIsWorks_c (ad ak : Option Addr) (cd ck : Nat) (m : Wk) (w : World) (hd : D4C w ad m.gates) (hk : IC w ak m.pulls) (nd : m.gates.length ≤ maxLen) (nk : m.pulls.length ≤ maxLen) :
    Calls Try.prog 3 #[.agg #[.int .i64 m.size, .slice ad m.gates.length cd, .slice ak m.pulls.length ck]] w fun e w' => e = .returned (.bool true) ∧ Below w.heap.size w w' := by
  obtain ⟨s, gs, ps⟩ := m
  dsimp only at *
  by_cases h0 : szMzP 1048576 gs.length ps.length < 0
  · have hd0 : decide (szMzP 1048576 gs.length ps.length < 0) = true := decide_eq_true h0
    clear h0
    go_enter Try.func3, Try.ntmps3
    go_wp2_with (go_at_call 10; refine (szWorks_c _ _ _ _ _ _ _ _ _ (by omega) (by omega) nd nk).mono ?_; rintro e w1 ⟨rfl, hb1⟩)
    go_ret
    exact ⟨rfl, below_then (by (repeat (first | exact Below.refl _ _ | apply Below.drew | apply below_drewN | (refine Below.setCell ?_ (by first | omega | (simp; done) | (simp; omega) | (dsimp only; omega)) _) | (refine Below.alloc ?_ (by first | omega | (simp; done) | (simp; omega) | (dsimp only; omega)) _)))) hb1⟩
  · have hd0 : decide (szMzP 1048576 gs.length ps.length < 0) = false := decide_eq_false h0
    obtain ⟨n1, n2⟩ := szMzP_le h0
    clear h0
    have hm : WkAt w (.agg #[.int .i64 s, .slice ad gs.length cd, .slice ak ps.length ck]) ⟨s, gs, ps⟩ := ⟨⟨ad, cd, ak, ck, rfl, hd, hk⟩, n1, n2⟩
    go_enter Try.func3, Try.ntmps3
    go_wp2_with fail
    refine (szWorks_c _ _ _ _ _ _ _ _ _ (by omega) (by omega) nd nk).mono ?_
    rintro e w1 ⟨rfl, hb1⟩
    obtain ⟨hc1, hf1, hz1⟩ := bcell3 hb1
    simp only [World.size_alloc] at hz1
    have HB1 : Hid (Below w.heap.size w w1) := below_then (by (repeat (first | exact Below.refl _ _ | apply Below.drew | apply below_drewN | (refine Below.setCell ?_ (by first | omega | (simp; done) | (simp; omega) | (dsimp only; omega)) _) | (refine Below.alloc ?_ (by first | omega | (simp; done) | (simp; omega) | (dsimp only; omega)) _)))) hb1
    go_wp2_with fail
    refine (toWorks_c _ _ _ (hm.later HB1.out)).mono ?_
    rintro e w2 ⟨u1, rfl, ho2, hb2⟩
    have HO2 := Lib.hid ho2; clear ho2
    obtain ⟨hc2, hf2, hz2⟩ := bcell3 hb2
    have HB2 : Hid (Below w.heap.size w w2) := below_then HB1.out hb2
    go_wp2_with fail
    refine (specIsWorks_c _ _ _ (HO2.out.wk n1 n2)).mono ?_
    rintro e w3 ⟨rfl, hb3⟩
    obtain ⟨hc3, hf3, hz3⟩ := bcell3 hb3
    have HB3 : Hid (Below w.heap.size w w3) := below_then HB2.out hb3
    have hz31 : w.heap.size < w1.heap.size := by omega
    have hz32 : w.heap.size < w2.heap.size := by omega
    have hz33 : w.heap.size < w3.heap.size := by omega
    go_wp2_with fail
    refine (toWorks_c _ _ _ (hm.later HB3.out)).mono ?_
    rintro e w4 ⟨u2, rfl, ho4, hb4⟩
    have HO4 := Lib.hid ho4; clear ho4
    obtain ⟨hc4, hf4, hz4⟩ := bcell3 hb4
    have HB4 : Hid (Below w.heap.size w w4) := below_then HB3.out hb4
    have hz34 : w.heap.size < w4.heap.size := by omega
    obtain ⟨⟨ad4, cd4, ak4, ck4, rfl, hd4, hk4⟩, _, _⟩ := HO4.out.wk n1 n2
    go_wp2_with fail
    refine (isWorks_c _ ⟨s, gs, ps⟩ _ ((HO4.out.wk n1 n2).later (by (repeat (first | exact Below.refl _ _ | apply Below.drew | apply below_drewN | (refine Below.setCell ?_ (by first | omega | (simp; done) | (simp; omega) | (dsimp only; omega)) _) | (refine Below.alloc ?_ (by first | omega | (simp; done) | (simp; omega) | (dsimp only; omega)) _)))))).mono ?_
    rintro e w5 ⟨rfl, hb5⟩
    obtain ⟨hc5, hf5, hz5⟩ := bcell3 hb5
    simp only [World.size_alloc] at hz5
    have HB5 : Hid (Below w.heap.size w w5) := below_then (HB4.out.alloc (by omega) _) hb5
    have hz35 : w.heap.size < w5.heap.size := by omega
    have hz45 : w4.heap.size < w5.heap.size := by omega
    go_wp2_with fail
    have hz54 : w.heap.size < w4.heap.size + 1 := by omega
    have q0 : w5.cell? ⟨w4.heap.size, 0, none⟩ = some (.int .i64 s) := by simp [*, go_sem]
    have q1 : w5.cell? ⟨w4.heap.size, 1, none⟩ = some (.slice ad4 gs.length cd4) := by simp [*, go_sem]
    have q2 : w5.cell? ⟨w4.heap.size, 2, none⟩ = some (.slice ak4 ps.length ck4) := by simp [*, go_sem]
    have q3 : w5.cell? ⟨w.heap.size, 0, none⟩ = some (.int .i64 s) := by simp [*, go_sem]
    have q4 : w5.cell? ⟨w.heap.size, 1, none⟩ = some (.slice ad gs.length cd) := by simp [*, go_sem]
    have q5 : w5.cell? ⟨w.heap.size, 2, none⟩ = some (.slice ak ps.length ck) := by simp [*, go_sem]
    go_region_held3 (fun W => W.cell? ⟨w4.heap.size, 0, none⟩ = some (.int .i64 s) ∧ W.cell? ⟨w4.heap.size, 1, none⟩ = some (.slice ad4 gs.length cd4) ∧ W.cell? ⟨w4.heap.size, 2, none⟩ = some (.slice ak4 ps.length ck4) ∧ W.cell? ⟨w.heap.size, 0, none⟩ = some (.int .i64 s) ∧ W.cell? ⟨w.heap.size, 1, none⟩ = some (.slice ad gs.length cd) ∧ W.cell? ⟨w.heap.size, 2, none⟩ = some (.slice ak ps.length ck))
      (first | exact ⟨q0, q1, q2, q3, q4, q5⟩ | exact ⟨k0, k1, k2, k3, k4, k5⟩ | exact ⟨j0, j1, j2, j3, j4, j5⟩)
      (first | (go_at_call 12; refine (toWorks_c _ _ _ (hm.later HB5.out.drew)).mono ?_; rintro e w6 ⟨u3, rfl, ho6, hb6⟩; have HO6 := Lib.hid ho6; clear ho6; have HB6 : Hid (Below w.heap.size w w6) := below_then HB5.out.drew hb6; have k0 : w6.cell? ⟨w4.heap.size, 0, none⟩ = some (.int .i64 s) := (hb6.cell (p := ⟨w4.heap.size, 0, none⟩) hz45).trans q0; have k1 : w6.cell? ⟨w4.heap.size, 1, none⟩ = some (.slice ad4 gs.length cd4) := (hb6.cell (p := ⟨w4.heap.size, 1, none⟩) hz45).trans q1; have k2 : w6.cell? ⟨w4.heap.size, 2, none⟩ = some (.slice ak4 ps.length ck4) := (hb6.cell (p := ⟨w4.heap.size, 2, none⟩) hz45).trans q2; have k3 : w6.cell? ⟨w.heap.size, 0, none⟩ = some (.int .i64 s) := (hb6.cell (p := ⟨w.heap.size, 0, none⟩) hz35).trans q3; have k4 : w6.cell? ⟨w.heap.size, 1, none⟩ = some (.slice ad gs.length cd) := (hb6.cell (p := ⟨w.heap.size, 1, none⟩) hz35).trans q4; have k5 : w6.cell? ⟨w.heap.size, 2, none⟩ = some (.slice ak ps.length ck) := (hb6.cell (p := ⟨w.heap.size, 2, none⟩) hz35).trans q5) | (go_at_call 14; refine (eqWorks_c _ _ ⟨s, gs, ps⟩ ⟨s, gs, ps⟩ _ ((HO4.out.wk n1 n2).later ((((Below.refl _ _).alloc (Nat.le_refl _) _).trans (hb5.mono (by simp))).drew.trans (hb6.mono (by simp; omega)))) (HO6.out.wk n1 n2)).mono ?_; rintro e w7 ⟨rfl, hb7⟩; have HB7 : Hid (Below w.heap.size w w7) := below_then HB6.out hb7; have j0 : w7.cell? ⟨w4.heap.size, 0, none⟩ = some (.int .i64 s) := (hb7.cell (p := ⟨w4.heap.size, 0, none⟩) (Nat.lt_of_lt_of_le hz45 hb6.size)).trans k0; have j1 : w7.cell? ⟨w4.heap.size, 1, none⟩ = some (.slice ad4 gs.length cd4) := (hb7.cell (p := ⟨w4.heap.size, 1, none⟩) (Nat.lt_of_lt_of_le hz45 hb6.size)).trans k1; have j2 : w7.cell? ⟨w4.heap.size, 2, none⟩ = some (.slice ak4 ps.length ck4) := (hb7.cell (p := ⟨w4.heap.size, 2, none⟩) (Nat.lt_of_lt_of_le hz45 hb6.size)).trans k2; have j3 : w7.cell? ⟨w.heap.size, 0, none⟩ = some (.int .i64 s) := (hb7.cell (p := ⟨w.heap.size, 0, none⟩) (Nat.lt_of_lt_of_le hz35 hb6.size)).trans k3; have j4 : w7.cell? ⟨w.heap.size, 1, none⟩ = some (.slice ad gs.length cd) := (hb7.cell (p := ⟨w.heap.size, 1, none⟩) (Nat.lt_of_lt_of_le hz35 hb6.size)).trans k4; have j5 : w7.cell? ⟨w.heap.size, 2, none⟩ = some (.slice ak ps.length ck) := (hb7.cell (p := ⟨w.heap.size, 2, none⟩) (Nat.lt_of_lt_of_le hz35 hb6.size)).trans k5))
    go_wp2
    go_ret
    exact ⟨rfl, HB7.out⟩
end Go.Proofs.Ytmapnpgjbahabaa
