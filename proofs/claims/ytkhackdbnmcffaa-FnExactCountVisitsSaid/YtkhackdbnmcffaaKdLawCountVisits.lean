/- The law FnExactCountVisits, walked. -/
import Derived.Test.YtkhackdbnmcffaaKdLaws2
import Derived.Test.YtkhackdbnmcffaaKdOpen
import Derived.Test.YtkhackdbnmcffaaKdCount
import Derived.Test.YtkhackdbnmcffaaKdChgW
import Derived.Deep.RegionHeld3
set_option linter.unusedVariables false
set_option linter.unusedSimpArgs false
namespace Go.Proofs.Ytkhackdbnmcffaa
open Go.RowKit Go.KD
attribute [local go_sem] later_cell later_frozen
set_option maxHeartbeats 8000000 in
theorem lawCountVisits_c (ad ak : Option Addr) (cd ck : Nat) (m : Wk) (w : World) (hd : D4C w ad m.gates) (hk : IC w ak m.pulls) (nd : m.gates.length ≤ maxLen) (nk : m.pulls.length ≤ maxLen) :
    Calls Try.prog 4 #[.agg #[.int .i64 m.size, .slice ad m.gates.length cd, .slice ak m.pulls.length ck]] w fun e w' => e = .returned (.bool true) ∧ Below w.heap.size w w' := by
  obtain ⟨s, gs, ps⟩ := m
  dsimp only at *
  by_cases h0 : szMzP 1048576 gs.length ps.length < 0
  case pos =>
    have hd0 : decide (szMzP 1048576 gs.length ps.length < 0) = true := decide_eq_true h0
    clear h0
    go_enter Try.func4, Try.ntmps4
    go_wp2_with (go_at_call 12; refine (szWorks_c _ _ _ _ _ _ _ _ _ (by omega) (by omega) nd nk).mono ?_; rintro e w1 ⟨rfl, hb1⟩)
    go_ret
    exact ⟨rfl, below_then (by (repeat (first | exact Below.refl _ _ | apply Below.drew | apply below_drewN | (refine Below.setCell ?_ (by first | omega | (simp; done) | (simp; omega) | (dsimp only; omega)) _) | (refine Below.alloc ?_ (by first | omega | (simp; done) | (simp; omega) | (dsimp only; omega)) _)))) hb1⟩
  case neg =>
    have hd0 : decide (szMzP 1048576 gs.length ps.length < 0) = false := decide_eq_false h0
    obtain ⟨n1, n2⟩ := szMzP_le h0
    clear h0
    have hm : WkAt w (.agg #[.int .i64 s, .slice ad gs.length cd, .slice ak ps.length ck]) ⟨s, gs, ps⟩ := ⟨⟨ad, cd, ak, ck, rfl, hd, hk⟩, n1, n2⟩
    go_enter Try.func4, Try.ntmps4
    have q0_0 : True := trivial
    have q0_1 : True := trivial
    have q0_2 : True := trivial
    go_wp2_with fail
    refine (szWorks_c _ _ _ _ _ _ _ _ _ (by omega) (by omega) nd nk).mono ?_
    rintro e w1 ⟨rfl, hb1⟩
    have z1 : w.heap.size + 1 ≤ w1.heap.size := by have := hb1.size; (try simp at this); omega
    have HB1 : Hid (Below w.heap.size w w1) := below_then (by (repeat (first | exact Below.refl _ _ | apply Below.drew | apply below_drewN | (refine Below.setCell ?_ (by first | omega | (simp; done) | (simp; omega) | (dsimp only; omega)) _) | (refine Below.alloc ?_ (by first | omega | (simp; done) | (simp; omega) | (dsimp only; omega)) _)))) hb1
    have q1_0 : w1.cell? ⟨w.heap.size, 0, none⟩ = some (.int .i64 s) := by rw [hb1.cell (p := ⟨w.heap.size, 0, none⟩) (by first | omega | (simp; done) | (simp; omega) | (dsimp only; omega))]; first | exact q0_0 | (rw [World.cell?_alloc_past _ _ _ (by omega)]; exact q0_0) | (simp [*, go_sem]; done)
    have q1_1 : w1.cell? ⟨w.heap.size, 1, none⟩ = some (.slice ad gs.length cd) := by rw [hb1.cell (p := ⟨w.heap.size, 1, none⟩) (by first | omega | (simp; done) | (simp; omega) | (dsimp only; omega))]; first | exact q0_1 | (rw [World.cell?_alloc_past _ _ _ (by omega)]; exact q0_1) | (simp [*, go_sem]; done)
    have q1_2 : w1.cell? ⟨w.heap.size, 2, none⟩ = some (.slice ak ps.length ck) := by rw [hb1.cell (p := ⟨w.heap.size, 2, none⟩) (by first | omega | (simp; done) | (simp; omega) | (dsimp only; omega))]; first | exact q0_2 | (rw [World.cell?_alloc_past _ _ _ (by omega)]; exact q0_2) | (simp [*, go_sem]; done)
    go_wp2_with fail
    refine (toWorks_c _ _ _ (hm.later HB1.out)).mono ?_
    rintro e w2 ⟨u2, rfl, ho2, hb2⟩
    have z2 : w1.heap.size ≤ w2.heap.size := by have := hb2.size; (try simp at this); omega
    have HB2 : Hid (Below w.heap.size w w2) := below_then (HB1.out) hb2
    have q2_0 : w2.cell? ⟨w.heap.size, 0, none⟩ = some (.int .i64 s) := by rw [hb2.cell (p := ⟨w.heap.size, 0, none⟩) (by first | omega | (simp; done) | (simp; omega) | (dsimp only; omega))]; first | exact q1_0 | (rw [World.cell?_alloc_past _ _ _ (by omega)]; exact q1_0) | (simp [*, go_sem]; done)
    have q2_1 : w2.cell? ⟨w.heap.size, 1, none⟩ = some (.slice ad gs.length cd) := by rw [hb2.cell (p := ⟨w.heap.size, 1, none⟩) (by first | omega | (simp; done) | (simp; omega) | (dsimp only; omega))]; first | exact q1_1 | (rw [World.cell?_alloc_past _ _ _ (by omega)]; exact q1_1) | (simp [*, go_sem]; done)
    have q2_2 : w2.cell? ⟨w.heap.size, 2, none⟩ = some (.slice ak ps.length ck) := by rw [hb2.cell (p := ⟨w.heap.size, 2, none⟩) (by first | omega | (simp; done) | (simp; omega) | (dsimp only; omega))]; first | exact q1_2 | (rw [World.cell?_alloc_past _ _ _ (by omega)]; exact q1_2) | (simp [*, go_sem]; done)
    have HO2 := Lib.hid ho2; clear ho2
    go_wp2_with fail
    refine (specCountVisits_c _ ⟨s, gs, ps⟩ _ (HO2.out.wk n1 n2)).mono ?_
    rintro e w3 ⟨rfl, hb3⟩
    have z3 : w2.heap.size ≤ w3.heap.size := by have := hb3.size; (try simp at this); omega
    have HB3 : Hid (Below w.heap.size w w3) := below_then (HB2.out) hb3
    have q3_0 : w3.cell? ⟨w.heap.size, 0, none⟩ = some (.int .i64 s) := by rw [hb3.cell (p := ⟨w.heap.size, 0, none⟩) (by first | omega | (simp; done) | (simp; omega) | (dsimp only; omega))]; first | exact q2_0 | (rw [World.cell?_alloc_past _ _ _ (by omega)]; exact q2_0) | (simp [*, go_sem]; done)
    have q3_1 : w3.cell? ⟨w.heap.size, 1, none⟩ = some (.slice ad gs.length cd) := by rw [hb3.cell (p := ⟨w.heap.size, 1, none⟩) (by first | omega | (simp; done) | (simp; omega) | (dsimp only; omega))]; first | exact q2_1 | (rw [World.cell?_alloc_past _ _ _ (by omega)]; exact q2_1) | (simp [*, go_sem]; done)
    have q3_2 : w3.cell? ⟨w.heap.size, 2, none⟩ = some (.slice ak ps.length ck) := by rw [hb3.cell (p := ⟨w.heap.size, 2, none⟩) (by first | omega | (simp; done) | (simp; omega) | (dsimp only; omega))]; first | exact q2_2 | (rw [World.cell?_alloc_past _ _ _ (by omega)]; exact q2_2) | (simp [*, go_sem]; done)
    go_wp2_with fail
    refine (toWorks_c _ _ _ (hm.later HB3.out)).mono ?_
    rintro e w4 ⟨u4, rfl, ho4, hb4⟩
    have z4 : w3.heap.size ≤ w4.heap.size := by have := hb4.size; (try simp at this); omega
    have HB4 : Hid (Below w.heap.size w w4) := below_then (HB3.out) hb4
    have q4_0 : w4.cell? ⟨w.heap.size, 0, none⟩ = some (.int .i64 s) := by rw [hb4.cell (p := ⟨w.heap.size, 0, none⟩) (by first | omega | (simp; done) | (simp; omega) | (dsimp only; omega))]; first | exact q3_0 | (rw [World.cell?_alloc_past _ _ _ (by omega)]; exact q3_0) | (simp [*, go_sem]; done)
    have q4_1 : w4.cell? ⟨w.heap.size, 1, none⟩ = some (.slice ad gs.length cd) := by rw [hb4.cell (p := ⟨w.heap.size, 1, none⟩) (by first | omega | (simp; done) | (simp; omega) | (dsimp only; omega))]; first | exact q3_1 | (rw [World.cell?_alloc_past _ _ _ (by omega)]; exact q3_1) | (simp [*, go_sem]; done)
    have q4_2 : w4.cell? ⟨w.heap.size, 2, none⟩ = some (.slice ak ps.length ck) := by rw [hb4.cell (p := ⟨w.heap.size, 2, none⟩) (by first | omega | (simp; done) | (simp; omega) | (dsimp only; omega))]; first | exact q3_2 | (rw [World.cell?_alloc_past _ _ _ (by omega)]; exact q3_2) | (simp [*, go_sem]; done)
    have HO4 := Lib.hid ho4; clear ho4
    obtain ⟨⟨ad4, cd4, ak4, ck4, rfl, hd4, hk4⟩, _, _⟩ := HO4.out.wk n1 n2
    go_wp2_with fail
    have q4_3 : True := trivial
    have q4_4 : True := trivial
    have q4_5 : True := trivial
    refine (implCountVisits_c _ ⟨s, gs, ps⟩ _ ((HO4.out.wk n1 n2).later ((Below.refl _ _).alloc (Nat.le_refl _) _))).mono ?_
    rintro e w5 ⟨rfl, hb5⟩
    have z5 : w4.heap.size + 1 ≤ w5.heap.size := by have := hb5.size; (try simp at this); omega
    have HB5 : Hid (Below w.heap.size w w5) := below_then (HB4.out.alloc (by first | omega | (simp; done) | (simp; omega) | (dsimp only; omega)) _) hb5
    have q5_0 : w5.cell? ⟨w.heap.size, 0, none⟩ = some (.int .i64 s) := by rw [hb5.cell (p := ⟨w.heap.size, 0, none⟩) (by first | omega | (simp; done) | (simp; omega) | (dsimp only; omega))]; first | exact q4_0 | (rw [World.cell?_alloc_past _ _ _ (by omega)]; exact q4_0) | (simp [*, go_sem]; done)
    have q5_1 : w5.cell? ⟨w.heap.size, 1, none⟩ = some (.slice ad gs.length cd) := by rw [hb5.cell (p := ⟨w.heap.size, 1, none⟩) (by first | omega | (simp; done) | (simp; omega) | (dsimp only; omega))]; first | exact q4_1 | (rw [World.cell?_alloc_past _ _ _ (by omega)]; exact q4_1) | (simp [*, go_sem]; done)
    have q5_2 : w5.cell? ⟨w.heap.size, 2, none⟩ = some (.slice ak ps.length ck) := by rw [hb5.cell (p := ⟨w.heap.size, 2, none⟩) (by first | omega | (simp; done) | (simp; omega) | (dsimp only; omega))]; first | exact q4_2 | (rw [World.cell?_alloc_past _ _ _ (by omega)]; exact q4_2) | (simp [*, go_sem]; done)
    have q5_3 : w5.cell? ⟨w4.heap.size, 0, none⟩ = some (.int .i64 s) := by rw [hb5.cell (p := ⟨w4.heap.size, 0, none⟩) (by first | omega | (simp; done) | (simp; omega) | (dsimp only; omega))]; first | exact q4_3 | (rw [World.cell?_alloc_past _ _ _ (by omega)]; exact q4_3) | (simp [*, go_sem]; done)
    have q5_4 : w5.cell? ⟨w4.heap.size, 1, none⟩ = some (.slice ad4 gs.length cd4) := by rw [hb5.cell (p := ⟨w4.heap.size, 1, none⟩) (by first | omega | (simp; done) | (simp; omega) | (dsimp only; omega))]; first | exact q4_4 | (rw [World.cell?_alloc_past _ _ _ (by omega)]; exact q4_4) | (simp [*, go_sem]; done)
    have q5_5 : w5.cell? ⟨w4.heap.size, 2, none⟩ = some (.slice ak4 ps.length ck4) := by rw [hb5.cell (p := ⟨w4.heap.size, 2, none⟩) (by first | omega | (simp; done) | (simp; omega) | (dsimp only; omega))]; first | exact q4_5 | (rw [World.cell?_alloc_past _ _ _ (by omega)]; exact q4_5) | (simp [*, go_sem]; done)
    go_wp2_with fail
    go_region_held3 (fun W => W.cell? ⟨w.heap.size, 0, none⟩ = some (.int .i64 s) ∧ W.cell? ⟨w.heap.size, 1, none⟩ = some (.slice ad gs.length cd) ∧ W.cell? ⟨w.heap.size, 2, none⟩ = some (.slice ak ps.length ck) ∧ W.cell? ⟨w4.heap.size, 0, none⟩ = some (.int .i64 s) ∧ W.cell? ⟨w4.heap.size, 1, none⟩ = some (.slice ad4 gs.length cd4) ∧ W.cell? ⟨w4.heap.size, 2, none⟩ = some (.slice ak4 ps.length ck4))
      (first | exact ⟨q5_0, q5_1, q5_2, q5_3, q5_4, q5_5⟩ | exact ⟨q6_0, q6_1, q6_2, q6_3, q6_4, q6_5⟩ | exact ⟨q7_0, q7_1, q7_2, q7_3, q7_4, q7_5⟩)
      (first | (go_at_call 14; refine (toWorks_c _ _ _ (hm.later HB5.out.drew)).mono ?_; rintro e w6 ⟨u6, rfl, ho6, hb6⟩; have HO6 := Lib.hid ho6; clear ho6; have HB6 : Hid (Below w.heap.size w w6) := below_then HB5.out.drew hb6; have q6_0 : w6.cell? ⟨w.heap.size, 0, none⟩ = some (.int .i64 s) := (hb6.cell (p := ⟨w.heap.size, 0, none⟩) (show w.heap.size < w5.heap.size from by omega)).trans q5_0; have q6_1 : w6.cell? ⟨w.heap.size, 1, none⟩ = some (.slice ad gs.length cd) := (hb6.cell (p := ⟨w.heap.size, 1, none⟩) (show w.heap.size < w5.heap.size from by omega)).trans q5_1; have q6_2 : w6.cell? ⟨w.heap.size, 2, none⟩ = some (.slice ak ps.length ck) := (hb6.cell (p := ⟨w.heap.size, 2, none⟩) (show w.heap.size < w5.heap.size from by omega)).trans q5_2; have q6_3 : w6.cell? ⟨w4.heap.size, 0, none⟩ = some (.int .i64 s) := (hb6.cell (p := ⟨w4.heap.size, 0, none⟩) (show w4.heap.size < w5.heap.size from by omega)).trans q5_3; have q6_4 : w6.cell? ⟨w4.heap.size, 1, none⟩ = some (.slice ad4 gs.length cd4) := (hb6.cell (p := ⟨w4.heap.size, 1, none⟩) (show w4.heap.size < w5.heap.size from by omega)).trans q5_4; have q6_5 : w6.cell? ⟨w4.heap.size, 2, none⟩ = some (.slice ak4 ps.length ck4) := (hb6.cell (p := ⟨w4.heap.size, 2, none⟩) (show w4.heap.size < w5.heap.size from by omega)).trans q5_5) | (go_at_call 16; refine (eqWorks_c _ _ ⟨s, gs, ps⟩ ⟨s, gs, ps⟩ _ ((HO4.out.wk n1 n2).later (below_then (below_then ((Below.refl _ _).alloc (Nat.le_refl _) _) hb5).drew hb6)) (HO6.out.wk n1 n2)).mono ?_; rintro e w7 ⟨rfl, hb7⟩; have HB7 : Hid (Below w.heap.size w w7) := below_then HB6.out hb7; have q7_0 : w7.cell? ⟨w.heap.size, 0, none⟩ = some (.int .i64 s) := (hb7.cell (p := ⟨w.heap.size, 0, none⟩) (show w.heap.size < w6.heap.size from (by have : w5.heap.size ≤ w6.heap.size := hb6.size; omega))).trans q6_0; have q7_1 : w7.cell? ⟨w.heap.size, 1, none⟩ = some (.slice ad gs.length cd) := (hb7.cell (p := ⟨w.heap.size, 1, none⟩) (show w.heap.size < w6.heap.size from (by have : w5.heap.size ≤ w6.heap.size := hb6.size; omega))).trans q6_1; have q7_2 : w7.cell? ⟨w.heap.size, 2, none⟩ = some (.slice ak ps.length ck) := (hb7.cell (p := ⟨w.heap.size, 2, none⟩) (show w.heap.size < w6.heap.size from (by have : w5.heap.size ≤ w6.heap.size := hb6.size; omega))).trans q6_2; have q7_3 : w7.cell? ⟨w4.heap.size, 0, none⟩ = some (.int .i64 s) := (hb7.cell (p := ⟨w4.heap.size, 0, none⟩) (show w4.heap.size < w6.heap.size from (by have : w5.heap.size ≤ w6.heap.size := hb6.size; omega))).trans q6_3; have q7_4 : w7.cell? ⟨w4.heap.size, 1, none⟩ = some (.slice ad4 gs.length cd4) := (hb7.cell (p := ⟨w4.heap.size, 1, none⟩) (show w4.heap.size < w6.heap.size from (by have : w5.heap.size ≤ w6.heap.size := hb6.size; omega))).trans q6_4; have q7_5 : w7.cell? ⟨w4.heap.size, 2, none⟩ = some (.slice ak4 ps.length ck4) := (hb7.cell (p := ⟨w4.heap.size, 2, none⟩) (show w4.heap.size < w6.heap.size from (by have : w5.heap.size ≤ w6.heap.size := hb6.size; omega))).trans q6_5))
    have z7 : w5.heap.size ≤ w7.heap.size := by have h1 : w5.heap.size ≤ w6.heap.size := hb6.size; have h2 := hb7.size; omega
    go_wp2_with fail
    go_ret
    exact ⟨rfl, HB7.out⟩
end Go.Proofs.Ytkhackdbnmcffaa
