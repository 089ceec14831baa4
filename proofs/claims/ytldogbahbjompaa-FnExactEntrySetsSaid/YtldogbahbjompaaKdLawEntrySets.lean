/- The law FnExactEntrySets, walked. -/
import Derived.Test.YtldogbahbjompaaKdChg
import Derived.Test.YtldogbahbjompaaKdOpen
import Derived.Test.YtldogbahbjompaaKdTab
import Derived.Test.YtldogbahbjompaaKdSetsE
import Derived.Deep.RegionHeld3
set_option linter.unusedVariables false
set_option linter.unusedSimpArgs false
namespace Go.Proofs.Ytldogbahbjompaa
open Go.RowKit Go.KD
attribute [local go_sem] later_cell later_frozen
set_option maxHeartbeats 16000000 in
theorem lawEntrySets_c (ad ak : Option Addr) (cd ck : Nat) (m : Mz) (w : World) (hd : D3C w ad m.doors) (hk : IC w ak m.keys) (nd : m.doors.length ≤ maxLen) (nk : m.keys.length ≤ maxLen) :
    Calls Try.prog 8 #[.agg #[.int .i64 m.size, .slice ad m.doors.length cd, .slice ak m.keys.length ck]] w fun e w' => e = .returned (.bool true) ∧ Below w.heap.size w w' := by
  obtain ⟨s, gs, ps⟩ := m
  dsimp only at *
  by_cases h0 : szMzP 1048576 gs.length ps.length < 0
  case pos =>
    have hd0 : decide (szMzP 1048576 gs.length ps.length < 0) = true := decide_eq_true h0
    clear h0
    go_enter Try.func8, Try.ntmps8
    go_wp2_with (go_at_call 11; refine (szMaze_c _ _ _ _ _ _ _ _ _ (by omega) (by omega) nd nk).mono ?_; rintro e w1 ⟨rfl, hb1⟩)
    go_ret
    exact ⟨rfl, below_then (by (repeat (first | exact Below.refl _ _ | apply Below.drew | apply below_drewN | (refine Below.setCell ?_ (by first | omega | (simp; done) | (simp; omega) | (dsimp only; omega)) _) | (refine Below.alloc ?_ (by first | omega | (simp; done) | (simp; omega) | (dsimp only; omega)) _)))) hb1⟩
  case neg =>
    have hd0 : decide (szMzP 1048576 gs.length ps.length < 0) = false := decide_eq_false h0
    obtain ⟨n1, n2⟩ := szMzP_le h0
    clear h0
    have hm : MzAt w (.agg #[.int .i64 s, .slice ad gs.length cd, .slice ak ps.length ck]) ⟨s, gs, ps⟩ := ⟨⟨ad, cd, ak, ck, rfl, hd, hk⟩, n1, n2⟩
    obtain ⟨R, b, hp⟩ : ∃ R b, pEntrySets ⟨s, gs, ps⟩ = (R, b) := ⟨_, _, rfl⟩
    obtain ⟨hR, hRR⟩ : R.length ≤ 4096 ∧ ∀ i, i < R.length → (R[i]!).length ≤ 4096 := by have := pEntrySets_len ⟨s, gs, ps⟩; rw [hp] at this; exact this
    have HRR := Lib.hid hRR; clear hRR
    have HRS : Hid (sumT R R.length ≤ 16777216) := Nat.le_trans (sumT_le (c := 4096) HRR.out R.length (Nat.le_refl _)) (Nat.le_trans (Nat.mul_le_mul_right 4096 hR) (by omega))
    have HP := Lib.hid hp; clear hp
    go_enter Try.func8, Try.ntmps8
    go_wp2_with fail
    refine (szMaze_c _ _ _ _ _ _ _ _ _ (by omega) (by omega) nd nk).mono ?_
    rintro e w1 ⟨rfl, hb1⟩
    have z1 : w.heap.size + 1 ≤ w1.heap.size := by have := hb1.size; (try simp at this); omega
    have q1_0 : w1.cell? ⟨w.heap.size, 0, none⟩ = some (.int .i64 s) := by rw [hb1.cell (p := ⟨w.heap.size, 0, none⟩) (by simp)]; simp [go_sem]
    have q1_1 : w1.cell? ⟨w.heap.size, 1, none⟩ = some (.slice ad gs.length cd) := by rw [hb1.cell (p := ⟨w.heap.size, 1, none⟩) (by simp)]; simp [go_sem]
    have q1_2 : w1.cell? ⟨w.heap.size, 2, none⟩ = some (.slice ak ps.length ck) := by rw [hb1.cell (p := ⟨w.heap.size, 2, none⟩) (by simp)]; simp [go_sem]
    have B0_1 : Hid (Below w.heap.size w w1) := below_then (by (repeat (first | exact Below.refl _ _ | apply Below.drew | apply below_drewN | (refine Below.setCell ?_ (by first | omega | (simp; done) | (simp; omega) | (dsimp only; omega)) _) | (refine Below.alloc ?_ (by first | omega | (simp; done) | (simp; omega) | (dsimp only; omega)) _)))) hb1
    go_wp2_with fail
    refine (toMaze_c _ _ _ (hm.later B0_1.out)).mono ?_
    rintro e w2 ⟨u2, rfl, ho2, hb2⟩
    have z2 : w1.heap.size ≤ w2.heap.size := by have := hb2.size; (try simp at this); omega
    have q2_0 : w2.cell? ⟨w.heap.size, 0, none⟩ = some (.int .i64 s) := by rw [hb2.cell (p := ⟨w.heap.size, 0, none⟩) (by first | omega | (simp; done) | (simp; omega) | (dsimp only; omega))]; first | exact q1_0 | (rw [World.cell?_alloc_past _ _ _ (by omega)]; exact q1_0) | (simp [go_sem]; done)
    have q2_1 : w2.cell? ⟨w.heap.size, 1, none⟩ = some (.slice ad gs.length cd) := by rw [hb2.cell (p := ⟨w.heap.size, 1, none⟩) (by first | omega | (simp; done) | (simp; omega) | (dsimp only; omega))]; first | exact q1_1 | (rw [World.cell?_alloc_past _ _ _ (by omega)]; exact q1_1) | (simp [go_sem]; done)
    have q2_2 : w2.cell? ⟨w.heap.size, 2, none⟩ = some (.slice ak ps.length ck) := by rw [hb2.cell (p := ⟨w.heap.size, 2, none⟩) (by first | omega | (simp; done) | (simp; omega) | (dsimp only; omega))]; first | exact q1_2 | (rw [World.cell?_alloc_past _ _ _ (by omega)]; exact q1_2) | (simp [go_sem]; done)
    have B0_2 : Hid (Below w.heap.size w w2) := (below_then B0_1.out hb2)
    have HO2 := Lib.hid ho2; clear ho2
    go_wp2_with fail
    refine (specEntrySets_c _ ⟨s, gs, ps⟩ _ R b HP.out ((HO2.out.mz n1 n2).later (Below.refl _ _))).mono ?_
    rintro e w3 ⟨aw, cw, rfl, hw, hb3⟩
    have z3 : w2.heap.size ≤ w3.heap.size := by have := hb3.size; (try simp at this); omega
    have q3_0 : w3.cell? ⟨w.heap.size, 0, none⟩ = some (.int .i64 s) := by rw [hb3.cell (p := ⟨w.heap.size, 0, none⟩) (by first | omega | (simp; done) | (simp; omega) | (dsimp only; omega))]; first | exact q2_0 | (rw [World.cell?_alloc_past _ _ _ (by omega)]; exact q2_0) | (simp [go_sem]; done)
    have q3_1 : w3.cell? ⟨w.heap.size, 1, none⟩ = some (.slice ad gs.length cd) := by rw [hb3.cell (p := ⟨w.heap.size, 1, none⟩) (by first | omega | (simp; done) | (simp; omega) | (dsimp only; omega))]; first | exact q2_1 | (rw [World.cell?_alloc_past _ _ _ (by omega)]; exact q2_1) | (simp [go_sem]; done)
    have q3_2 : w3.cell? ⟨w.heap.size, 2, none⟩ = some (.slice ak ps.length ck) := by rw [hb3.cell (p := ⟨w.heap.size, 2, none⟩) (by first | omega | (simp; done) | (simp; omega) | (dsimp only; omega))]; first | exact q2_2 | (rw [World.cell?_alloc_past _ _ _ (by omega)]; exact q2_2) | (simp [go_sem]; done)
    have B0_3 : Hid (Below w.heap.size w w3) := (below_then B0_2.out hb3)
    have B2_3 : Hid (Below w2.heap.size w2 w3) := (below_then (Below.refl _ _) hb3)
    go_wp2_with fail
    refine (toMaze_c _ _ _ (hm.later B0_3.out)).mono ?_
    rintro e w4 ⟨u4, rfl, ho4, hb4⟩
    have z4 : w3.heap.size ≤ w4.heap.size := by have := hb4.size; (try simp at this); omega
    have q4_0 : w4.cell? ⟨w.heap.size, 0, none⟩ = some (.int .i64 s) := by rw [hb4.cell (p := ⟨w.heap.size, 0, none⟩) (by first | omega | (simp; done) | (simp; omega) | (dsimp only; omega))]; first | exact q3_0 | (rw [World.cell?_alloc_past _ _ _ (by omega)]; exact q3_0) | (simp [go_sem]; done)
    have q4_1 : w4.cell? ⟨w.heap.size, 1, none⟩ = some (.slice ad gs.length cd) := by rw [hb4.cell (p := ⟨w.heap.size, 1, none⟩) (by first | omega | (simp; done) | (simp; omega) | (dsimp only; omega))]; first | exact q3_1 | (rw [World.cell?_alloc_past _ _ _ (by omega)]; exact q3_1) | (simp [go_sem]; done)
    have q4_2 : w4.cell? ⟨w.heap.size, 2, none⟩ = some (.slice ak ps.length ck) := by rw [hb4.cell (p := ⟨w.heap.size, 2, none⟩) (by first | omega | (simp; done) | (simp; omega) | (dsimp only; omega))]; first | exact q3_2 | (rw [World.cell?_alloc_past _ _ _ (by omega)]; exact q3_2) | (simp [go_sem]; done)
    have B0_4 : Hid (Below w.heap.size w w4) := (below_then B0_3.out hb4)
    have B3_4 : Hid (Below w3.heap.size w3 w4) := (below_then (Below.refl _ _) hb4)
    have HO4 := Lib.hid ho4; clear ho4
    obtain ⟨e43, e41, vd4, vk4, hu4, o43, o41, hap4⟩ := HO4.out
    obtain ⟨ad4, cd4, rfl⟩ := o43.slice
    obtain ⟨ak4, ck4, rfl⟩ := o41.slice
    subst hu4
    clear o43 o41 hap4
    go_wp2_with fail
    have q4_3 : True := trivial
    have q4_4 : True := trivial
    have q4_5 : True := trivial
    refine (implEntrySets_c _ ⟨s, gs, ps⟩ _ R b HP.out ((HO4.out.mz n1 n2).later (Below.alloc (Below.refl _ _) (by first | omega | (simp; done) | (simp; omega) | (dsimp only; omega)) _))).mono ?_
    rintro e w5 ⟨ag, cg, vs, eS, eI, rfl, hog, hb5⟩
    have z5 : w4.heap.size + 1 ≤ w5.heap.size := by have := hb5.size; (try simp at this); omega
    have q5_0 : w5.cell? ⟨w.heap.size, 0, none⟩ = some (.int .i64 s) := by rw [hb5.cell (p := ⟨w.heap.size, 0, none⟩) (by first | omega | (simp; done) | (simp; omega) | (dsimp only; omega))]; first | exact q4_0 | (rw [World.cell?_alloc_past _ _ _ (by omega)]; exact q4_0) | (simp [go_sem]; done)
    have q5_1 : w5.cell? ⟨w.heap.size, 1, none⟩ = some (.slice ad gs.length cd) := by rw [hb5.cell (p := ⟨w.heap.size, 1, none⟩) (by first | omega | (simp; done) | (simp; omega) | (dsimp only; omega))]; first | exact q4_1 | (rw [World.cell?_alloc_past _ _ _ (by omega)]; exact q4_1) | (simp [go_sem]; done)
    have q5_2 : w5.cell? ⟨w.heap.size, 2, none⟩ = some (.slice ak ps.length ck) := by rw [hb5.cell (p := ⟨w.heap.size, 2, none⟩) (by first | omega | (simp; done) | (simp; omega) | (dsimp only; omega))]; first | exact q4_2 | (rw [World.cell?_alloc_past _ _ _ (by omega)]; exact q4_2) | (simp [go_sem]; done)
    have q5_3 : w5.cell? ⟨w4.heap.size, 0, none⟩ = some (.int .i64 s) := by rw [hb5.cell (p := ⟨w4.heap.size, 0, none⟩) (by first | omega | (simp; done) | (simp; omega) | (dsimp only; omega))]; first | exact q4_3 | (rw [World.cell?_alloc_past _ _ _ (by omega)]; exact q4_3) | (simp [go_sem]; done)
    have q5_4 : w5.cell? ⟨w4.heap.size, 1, none⟩ = some (.slice ad4 gs.length cd4) := by rw [hb5.cell (p := ⟨w4.heap.size, 1, none⟩) (by first | omega | (simp; done) | (simp; omega) | (dsimp only; omega))]; first | exact q4_4 | (rw [World.cell?_alloc_past _ _ _ (by omega)]; exact q4_4) | (simp [go_sem]; done)
    have q5_5 : w5.cell? ⟨w4.heap.size, 2, none⟩ = some (.slice ak4 ps.length ck4) := by rw [hb5.cell (p := ⟨w4.heap.size, 2, none⟩) (by first | omega | (simp; done) | (simp; omega) | (dsimp only; omega))]; first | exact q4_5 | (rw [World.cell?_alloc_past _ _ _ (by omega)]; exact q4_5) | (simp [go_sem]; done)
    have B0_5 : Hid (Below w.heap.size w w5) := (below_then (Below.alloc B0_4.out (by first | omega | (simp; done) | (simp; omega) | (dsimp only; omega)) _) hb5)
    have B3_5 : Hid (Below w3.heap.size w3 w5) := (below_then (Below.alloc B3_4.out (by first | omega | (simp; done) | (simp; omega) | (dsimp only; omega)) _) hb5)
    have B4_5 : Hid (Below w4.heap.size w4 w5) := (below_then (Below.alloc (Below.refl _ _) (by first | omega | (simp; done) | (simp; omega) | (dsimp only; omega)) _) hb5)
    have HG := Lib.hid hog; clear hog
    have zlo : w4.heap.size ≤ w5.heap.size := by omega
    go_wp2_with fail
    refine (eqIntSS_c _ _ _ _ R.length R _ rfl HG.out.tb (hw.later B3_5.out) (by omega) (fun i hi => by have := HRR.out i hi; omega)).mono ?_
    rintro e w6 ⟨rfl, hb6⟩
    have z6 : w5.heap.size ≤ w6.heap.size := by have := hb6.size; (try simp at this); omega
    have q6_0 : w6.cell? ⟨w.heap.size, 0, none⟩ = some (.int .i64 s) := by rw [hb6.cell (p := ⟨w.heap.size, 0, none⟩) (by first | omega | (simp; done) | (simp; omega) | (dsimp only; omega))]; first | exact q5_0 | (rw [World.cell?_alloc_past _ _ _ (by omega)]; exact q5_0) | (simp [go_sem]; done)
    have q6_1 : w6.cell? ⟨w.heap.size, 1, none⟩ = some (.slice ad gs.length cd) := by rw [hb6.cell (p := ⟨w.heap.size, 1, none⟩) (by first | omega | (simp; done) | (simp; omega) | (dsimp only; omega))]; first | exact q5_1 | (rw [World.cell?_alloc_past _ _ _ (by omega)]; exact q5_1) | (simp [go_sem]; done)
    have q6_2 : w6.cell? ⟨w.heap.size, 2, none⟩ = some (.slice ak ps.length ck) := by rw [hb6.cell (p := ⟨w.heap.size, 2, none⟩) (by first | omega | (simp; done) | (simp; omega) | (dsimp only; omega))]; first | exact q5_2 | (rw [World.cell?_alloc_past _ _ _ (by omega)]; exact q5_2) | (simp [go_sem]; done)
    have q6_3 : w6.cell? ⟨w4.heap.size, 0, none⟩ = some (.int .i64 s) := by rw [hb6.cell (p := ⟨w4.heap.size, 0, none⟩) (by first | omega | (simp; done) | (simp; omega) | (dsimp only; omega))]; first | exact q5_3 | (rw [World.cell?_alloc_past _ _ _ (by omega)]; exact q5_3) | (simp [go_sem]; done)
    have q6_4 : w6.cell? ⟨w4.heap.size, 1, none⟩ = some (.slice ad4 gs.length cd4) := by rw [hb6.cell (p := ⟨w4.heap.size, 1, none⟩) (by first | omega | (simp; done) | (simp; omega) | (dsimp only; omega))]; first | exact q5_4 | (rw [World.cell?_alloc_past _ _ _ (by omega)]; exact q5_4) | (simp [go_sem]; done)
    have q6_5 : w6.cell? ⟨w4.heap.size, 2, none⟩ = some (.slice ak4 ps.length ck4) := by rw [hb6.cell (p := ⟨w4.heap.size, 2, none⟩) (by first | omega | (simp; done) | (simp; omega) | (dsimp only; omega))]; first | exact q5_5 | (rw [World.cell?_alloc_past _ _ _ (by omega)]; exact q5_5) | (simp [go_sem]; done)
    have B0_6 : Hid (Below w.heap.size w w6) := (below_then B0_5.out hb6)
    have B3_6 : Hid (Below w3.heap.size w3 w6) := (below_then B3_5.out hb6)
    have B4_6 : Hid (Below w4.heap.size w4 w6) := (below_then B4_5.out hb6)
    have B5_6 : Hid (Below w5.heap.size w5 w6) := (below_then (Below.refl _ _) hb6)
    go_wp2_with fail
    go_region_held3 (fun W => W.cell? ⟨w.heap.size, 0, none⟩ = some (.int .i64 s) ∧ W.cell? ⟨w.heap.size, 1, none⟩ = some (.slice ad gs.length cd) ∧ W.cell? ⟨w.heap.size, 2, none⟩ = some (.slice ak ps.length ck) ∧ W.cell? ⟨w4.heap.size, 0, none⟩ = some (.int .i64 s) ∧ W.cell? ⟨w4.heap.size, 1, none⟩ = some (.slice ad4 gs.length cd4) ∧ W.cell? ⟨w4.heap.size, 2, none⟩ = some (.slice ak4 ps.length ck4))
      (first | exact ⟨q6_0, q6_1, q6_2, q6_3, q6_4, q6_5⟩ | exact ⟨q7_0, q7_1, q7_2, q7_3, q7_4, q7_5⟩ | exact ⟨q8_0, q8_1, q8_2, q8_3, q8_4, q8_5⟩)
      (first | (go_at_call 13; refine (toMaze_c _ _ _ (hm.later (B0_6.out).drew)).mono ?_; rintro e w7 ⟨u7, rfl, ho7, hb7⟩; have HO7 := Lib.hid ho7; clear ho7; have q7_0 : w7.cell? ⟨w.heap.size, 0, none⟩ = some (.int .i64 s) := (hb7.cell (p := ⟨w.heap.size, 0, none⟩) (show w.heap.size < w6.heap.size from by omega)).trans q6_0; have q7_1 : w7.cell? ⟨w.heap.size, 1, none⟩ = some (.slice ad gs.length cd) := (hb7.cell (p := ⟨w.heap.size, 1, none⟩) (show w.heap.size < w6.heap.size from by omega)).trans q6_1; have q7_2 : w7.cell? ⟨w.heap.size, 2, none⟩ = some (.slice ak ps.length ck) := (hb7.cell (p := ⟨w.heap.size, 2, none⟩) (show w.heap.size < w6.heap.size from by omega)).trans q6_2; have q7_3 : w7.cell? ⟨w4.heap.size, 0, none⟩ = some (.int .i64 s) := (hb7.cell (p := ⟨w4.heap.size, 0, none⟩) (show w4.heap.size < w6.heap.size from by omega)).trans q6_3; have q7_4 : w7.cell? ⟨w4.heap.size, 1, none⟩ = some (.slice ad4 gs.length cd4) := (hb7.cell (p := ⟨w4.heap.size, 1, none⟩) (show w4.heap.size < w6.heap.size from by omega)).trans q6_4; have q7_5 : w7.cell? ⟨w4.heap.size, 2, none⟩ = some (.slice ak4 ps.length ck4) := (hb7.cell (p := ⟨w4.heap.size, 2, none⟩) (show w4.heap.size < w6.heap.size from by omega)).trans q6_5) | (go_at_call 16; refine (eqMaze_c _ _ ⟨s, gs, ps⟩ ⟨s, gs, ps⟩ _ ((HO4.out.mz n1 n2).later (below_then (B4_6.out).drew hb7)) (HO7.out.mz n1 n2)).mono ?_; rintro e w8 ⟨rfl, hb8⟩; have q8_0 : w8.cell? ⟨w.heap.size, 0, none⟩ = some (.int .i64 s) := (hb8.cell (p := ⟨w.heap.size, 0, none⟩) (show w.heap.size < w7.heap.size from (by have : w6.heap.size ≤ w7.heap.size := hb7.size; omega))).trans q7_0; have q8_1 : w8.cell? ⟨w.heap.size, 1, none⟩ = some (.slice ad gs.length cd) := (hb8.cell (p := ⟨w.heap.size, 1, none⟩) (show w.heap.size < w7.heap.size from (by have : w6.heap.size ≤ w7.heap.size := hb7.size; omega))).trans q7_1; have q8_2 : w8.cell? ⟨w.heap.size, 2, none⟩ = some (.slice ak ps.length ck) := (hb8.cell (p := ⟨w.heap.size, 2, none⟩) (show w.heap.size < w7.heap.size from (by have : w6.heap.size ≤ w7.heap.size := hb7.size; omega))).trans q7_2; have q8_3 : w8.cell? ⟨w4.heap.size, 0, none⟩ = some (.int .i64 s) := (hb8.cell (p := ⟨w4.heap.size, 0, none⟩) (show w4.heap.size < w7.heap.size from (by have : w6.heap.size ≤ w7.heap.size := hb7.size; omega))).trans q7_3; have q8_4 : w8.cell? ⟨w4.heap.size, 1, none⟩ = some (.slice ad4 gs.length cd4) := (hb8.cell (p := ⟨w4.heap.size, 1, none⟩) (show w4.heap.size < w7.heap.size from (by have : w6.heap.size ≤ w7.heap.size := hb7.size; omega))).trans q7_4; have q8_5 : w8.cell? ⟨w4.heap.size, 2, none⟩ = some (.slice ak4 ps.length ck4) := (hb8.cell (p := ⟨w4.heap.size, 2, none⟩) (show w4.heap.size < w7.heap.size from (by have : w6.heap.size ≤ w7.heap.size := hb7.size; omega))).trans q7_5))
    have z7 : w6.heap.size ≤ w7.heap.size := hb7.size
    have z8 : w7.heap.size ≤ w8.heap.size := hb8.size
    have B0_8 : Hid (Below w.heap.size w w8) := (below_then (below_then (Below.drew B0_6.out) hb7) hb8)
    have B3_8 : Hid (Below w3.heap.size w3 w8) := (below_then (below_then (Below.drew B3_6.out) hb7) hb8)
    have B4_8 : Hid (Below w4.heap.size w4 w8) := (below_then (below_then (Below.drew B4_6.out) hb7) hb8)
    have B5_8 : Hid (Below w5.heap.size w5 w8) := (below_then (below_then (Below.drew B5_6.out) hb7) hb8)
    go_wp2_with fail
    refine (markMaze_c _ _ _ ⟨s, gs, ps⟩ _ _ (HO4.out.later B4_8.out (Nat.le_refl _)) (by omega) n1 n2 (by omega) (by omega)).mono ?_
    rintro e w9 ⟨rfl, hc9⟩
    have z9 : w8.heap.size ≤ w9.heap.size := by have := hc9.size; (try simp at this); omega
    have q9_0 : w9.cell? ⟨w.heap.size, 0, none⟩ = some (.int .i64 s) := (hc9.cell (p := ⟨w.heap.size, 0, none⟩) (show w.heap.size < w8.heap.size by omega) (by first | (left; show w.heap.size < _; omega) | (right; show _ ≤ w.heap.size; omega) | (left; simp; done) | (left; simp; omega) | (right; simp; omega))).trans q8_0
    have q9_1 : w9.cell? ⟨w.heap.size, 1, none⟩ = some (.slice ad gs.length cd) := (hc9.cell (p := ⟨w.heap.size, 1, none⟩) (show w.heap.size < w8.heap.size by omega) (by first | (left; show w.heap.size < _; omega) | (right; show _ ≤ w.heap.size; omega) | (left; simp; done) | (left; simp; omega) | (right; simp; omega))).trans q8_1
    have q9_2 : w9.cell? ⟨w.heap.size, 2, none⟩ = some (.slice ak ps.length ck) := (hc9.cell (p := ⟨w.heap.size, 2, none⟩) (show w.heap.size < w8.heap.size by omega) (by first | (left; show w.heap.size < _; omega) | (right; show _ ≤ w.heap.size; omega) | (left; simp; done) | (left; simp; omega) | (right; simp; omega))).trans q8_2
    have q9_3 : w9.cell? ⟨w4.heap.size, 0, none⟩ = some (.int .i64 s) := (hc9.cell (p := ⟨w4.heap.size, 0, none⟩) (show w4.heap.size < w8.heap.size by omega) (by first | (left; show w4.heap.size < _; omega) | (right; show _ ≤ w4.heap.size; omega) | (left; simp; done) | (left; simp; omega) | (right; simp; omega))).trans q8_3
    have q9_4 : w9.cell? ⟨w4.heap.size, 1, none⟩ = some (.slice ad4 gs.length cd4) := (hc9.cell (p := ⟨w4.heap.size, 1, none⟩) (show w4.heap.size < w8.heap.size by omega) (by first | (left; show w4.heap.size < _; omega) | (right; show _ ≤ w4.heap.size; omega) | (left; simp; done) | (left; simp; omega) | (right; simp; omega))).trans q8_4
    have q9_5 : w9.cell? ⟨w4.heap.size, 2, none⟩ = some (.slice ak4 ps.length ck4) := (hc9.cell (p := ⟨w4.heap.size, 2, none⟩) (show w4.heap.size < w8.heap.size by omega) (by first | (left; show w4.heap.size < _; omega) | (right; show _ ≤ w4.heap.size; omega) | (left; simp; done) | (left; simp; omega) | (right; simp; omega))).trans q8_5
    have HG_9 := Lib.hid (((HG.out.later B5_8.out (by first | exact Nat.le_refl _ | omega | (simp; done) | (simp; omega))).chg hc9 (by first | (left; first | omega | (simp; done) | (simp; omega)) | (right; first | omega | (simp; done) | (simp; omega)))).mono (Nat.le_refl _) (show _ ≤ w9.heap.size by first | omega | (simp; done) | (simp; omega)))
    have B0_9 : Hid (Below w.heap.size w w9) := (Below.trans B0_8.out (hc9.below (by first | omega | (simp; done) | (simp; omega) | (dsimp only; omega)) (by first | omega | (simp; done) | (simp; omega) | (dsimp only; omega))))
    have B3_9 : Hid (Below w3.heap.size w3 w9) := (Below.trans B3_8.out (hc9.below (by first | omega | (simp; done) | (simp; omega) | (dsimp only; omega)) (by first | omega | (simp; done) | (simp; omega) | (dsimp only; omega))))
    have hk0 : decide (1 + (gs.length : Int) * 3 + (ps.length : Int) < 0) = false := by simp; omega
    go_wp2_with fail
    refine (eqIntSS_c _ _ _ _ R.length R _ rfl HG_9.out.tb (hw.later B3_9.out) (by omega) (fun i hi => by have := HRR.out i hi; omega)).mono ?_
    rintro e w10 ⟨rfl, hb10⟩
    have z10 : w9.heap.size ≤ w10.heap.size := by have := hb10.size; (try simp at this); omega
    have q10_0 : w10.cell? ⟨w.heap.size, 0, none⟩ = some (.int .i64 s) := by rw [hb10.cell (p := ⟨w.heap.size, 0, none⟩) (by first | omega | (simp; done) | (simp; omega) | (dsimp only; omega))]; first | exact q9_0 | (rw [World.cell?_alloc_past _ _ _ (by omega)]; exact q9_0) | (simp [go_sem]; done)
    have q10_1 : w10.cell? ⟨w.heap.size, 1, none⟩ = some (.slice ad gs.length cd) := by rw [hb10.cell (p := ⟨w.heap.size, 1, none⟩) (by first | omega | (simp; done) | (simp; omega) | (dsimp only; omega))]; first | exact q9_1 | (rw [World.cell?_alloc_past _ _ _ (by omega)]; exact q9_1) | (simp [go_sem]; done)
    have q10_2 : w10.cell? ⟨w.heap.size, 2, none⟩ = some (.slice ak ps.length ck) := by rw [hb10.cell (p := ⟨w.heap.size, 2, none⟩) (by first | omega | (simp; done) | (simp; omega) | (dsimp only; omega))]; first | exact q9_2 | (rw [World.cell?_alloc_past _ _ _ (by omega)]; exact q9_2) | (simp [go_sem]; done)
    have q10_3 : w10.cell? ⟨w4.heap.size, 0, none⟩ = some (.int .i64 s) := by rw [hb10.cell (p := ⟨w4.heap.size, 0, none⟩) (by first | omega | (simp; done) | (simp; omega) | (dsimp only; omega))]; first | exact q9_3 | (rw [World.cell?_alloc_past _ _ _ (by omega)]; exact q9_3) | (simp [go_sem]; done)
    have q10_4 : w10.cell? ⟨w4.heap.size, 1, none⟩ = some (.slice ad4 gs.length cd4) := by rw [hb10.cell (p := ⟨w4.heap.size, 1, none⟩) (by first | omega | (simp; done) | (simp; omega) | (dsimp only; omega))]; first | exact q9_4 | (rw [World.cell?_alloc_past _ _ _ (by omega)]; exact q9_4) | (simp [go_sem]; done)
    have q10_5 : w10.cell? ⟨w4.heap.size, 2, none⟩ = some (.slice ak4 ps.length ck4) := by rw [hb10.cell (p := ⟨w4.heap.size, 2, none⟩) (by first | omega | (simp; done) | (simp; omega) | (dsimp only; omega))]; first | exact q9_5 | (rw [World.cell?_alloc_past _ _ _ (by omega)]; exact q9_5) | (simp [go_sem]; done)
    have B0_10 : Hid (Below w.heap.size w w10) := (below_then B0_9.out hb10)
    have B3_10 : Hid (Below w3.heap.size w3 w10) := (below_then B3_9.out hb10)
    have B9_10 : Hid (Below w9.heap.size w9 w10) := (below_then (Below.refl _ _) hb10)
    go_wp2_with fail
    refine (markIntSS_c _ _ _ _ _ _ R.length _ R _ _ (HG_9.out.later B9_10.out (by first | exact Nat.le_refl _ | omega | (simp; done) | (simp; omega))) (by omega) (fun i hi => HRR.out i hi) (by omega) (by omega)).mono ?_
    rintro e w11 ⟨rfl, hrg, hc11⟩
    have HM := Lib.hid hrg.tb; clear hrg
    have z11 : w10.heap.size ≤ w11.heap.size := by have := hc11.size; (try simp at this); omega
    have q11_0 : w11.cell? ⟨w.heap.size, 0, none⟩ = some (.int .i64 s) := (hc11.cell (p := ⟨w.heap.size, 0, none⟩) (show w.heap.size < w10.heap.size by omega) (by first | (left; show w.heap.size < _; omega) | (right; show _ ≤ w.heap.size; omega) | (left; simp; done) | (left; simp; omega) | (right; simp; omega))).trans q10_0
    have q11_1 : w11.cell? ⟨w.heap.size, 1, none⟩ = some (.slice ad gs.length cd) := (hc11.cell (p := ⟨w.heap.size, 1, none⟩) (show w.heap.size < w10.heap.size by omega) (by first | (left; show w.heap.size < _; omega) | (right; show _ ≤ w.heap.size; omega) | (left; simp; done) | (left; simp; omega) | (right; simp; omega))).trans q10_1
    have q11_2 : w11.cell? ⟨w.heap.size, 2, none⟩ = some (.slice ak ps.length ck) := (hc11.cell (p := ⟨w.heap.size, 2, none⟩) (show w.heap.size < w10.heap.size by omega) (by first | (left; show w.heap.size < _; omega) | (right; show _ ≤ w.heap.size; omega) | (left; simp; done) | (left; simp; omega) | (right; simp; omega))).trans q10_2
    have q11_3 : w11.cell? ⟨w4.heap.size, 0, none⟩ = some (.int .i64 s) := (hc11.cell (p := ⟨w4.heap.size, 0, none⟩) (show w4.heap.size < w10.heap.size by omega) (by first | (left; show w4.heap.size < _; omega) | (right; show _ ≤ w4.heap.size; omega) | (left; simp; done) | (left; simp; omega) | (right; simp; omega))).trans q10_3
    have q11_4 : w11.cell? ⟨w4.heap.size, 1, none⟩ = some (.slice ad4 gs.length cd4) := (hc11.cell (p := ⟨w4.heap.size, 1, none⟩) (show w4.heap.size < w10.heap.size by omega) (by first | (left; show w4.heap.size < _; omega) | (right; show _ ≤ w4.heap.size; omega) | (left; simp; done) | (left; simp; omega) | (right; simp; omega))).trans q10_4
    have q11_5 : w11.cell? ⟨w4.heap.size, 2, none⟩ = some (.slice ak4 ps.length ck4) := (hc11.cell (p := ⟨w4.heap.size, 2, none⟩) (show w4.heap.size < w10.heap.size by omega) (by first | (left; show w4.heap.size < _; omega) | (right; show _ ≤ w4.heap.size; omega) | (left; simp; done) | (left; simp; omega) | (right; simp; omega))).trans q10_5
    have B0_11 : Hid (Below w.heap.size w w11) := (Below.trans B0_10.out (hc11.below (by first | omega | (simp; done) | (simp; omega) | (dsimp only; omega)) (by first | omega | (simp; done) | (simp; omega) | (dsimp only; omega))))
    have B3_11 : Hid (Below w3.heap.size w3 w11) := (Below.trans B3_10.out (hc11.below (by first | omega | (simp; done) | (simp; omega) | (dsimp only; omega)) (by first | omega | (simp; done) | (simp; omega) | (dsimp only; omega))))
    go_wp2_with fail
    have hdm : decide (1 + ((sumT R R.length : Nat) : Int) < 0) = false := by simp; omega
    refine (heldIntSS_c _ _ R.length R _ _ HM.out rfl (by omega) (fun i hi => HRR.out i hi) (by omega) (by omega)).mono ?_
    rintro e wh ⟨rfl, rfl⟩
    go_wp2_with fail
    refine (toMaze_c _ _ _ (hm.later B0_11.out)).mono ?_
    rintro e w12 ⟨u12, rfl, ho12, hb12⟩
    have z12 : w11.heap.size ≤ w12.heap.size := by have := hb12.size; (try simp at this); omega
    have q12_0 : w12.cell? ⟨w.heap.size, 0, none⟩ = some (.int .i64 s) := by rw [hb12.cell (p := ⟨w.heap.size, 0, none⟩) (by first | omega | (simp; done) | (simp; omega) | (dsimp only; omega))]; first | exact q11_0 | (rw [World.cell?_alloc_past _ _ _ (by omega)]; exact q11_0) | (simp [go_sem]; done)
    have q12_1 : w12.cell? ⟨w.heap.size, 1, none⟩ = some (.slice ad gs.length cd) := by rw [hb12.cell (p := ⟨w.heap.size, 1, none⟩) (by first | omega | (simp; done) | (simp; omega) | (dsimp only; omega))]; first | exact q11_1 | (rw [World.cell?_alloc_past _ _ _ (by omega)]; exact q11_1) | (simp [go_sem]; done)
    have q12_2 : w12.cell? ⟨w.heap.size, 2, none⟩ = some (.slice ak ps.length ck) := by rw [hb12.cell (p := ⟨w.heap.size, 2, none⟩) (by first | omega | (simp; done) | (simp; omega) | (dsimp only; omega))]; first | exact q11_2 | (rw [World.cell?_alloc_past _ _ _ (by omega)]; exact q11_2) | (simp [go_sem]; done)
    have q12_3 : w12.cell? ⟨w4.heap.size, 0, none⟩ = some (.int .i64 s) := by rw [hb12.cell (p := ⟨w4.heap.size, 0, none⟩) (by first | omega | (simp; done) | (simp; omega) | (dsimp only; omega))]; first | exact q11_3 | (rw [World.cell?_alloc_past _ _ _ (by omega)]; exact q11_3) | (simp [go_sem]; done)
    have q12_4 : w12.cell? ⟨w4.heap.size, 1, none⟩ = some (.slice ad4 gs.length cd4) := by rw [hb12.cell (p := ⟨w4.heap.size, 1, none⟩) (by first | omega | (simp; done) | (simp; omega) | (dsimp only; omega))]; first | exact q11_4 | (rw [World.cell?_alloc_past _ _ _ (by omega)]; exact q11_4) | (simp [go_sem]; done)
    have q12_5 : w12.cell? ⟨w4.heap.size, 2, none⟩ = some (.slice ak4 ps.length ck4) := by rw [hb12.cell (p := ⟨w4.heap.size, 2, none⟩) (by first | omega | (simp; done) | (simp; omega) | (dsimp only; omega))]; first | exact q11_5 | (rw [World.cell?_alloc_past _ _ _ (by omega)]; exact q11_5) | (simp [go_sem]; done)
    have B0_12 : Hid (Below w.heap.size w w12) := (below_then B0_11.out hb12)
    have B3_12 : Hid (Below w3.heap.size w3 w12) := (below_then B3_11.out hb12)
    have B11_12 : Hid (Below w11.heap.size w11 w12) := (below_then (Below.refl _ _) hb12)
    have HO12 := Lib.hid ho12; clear ho12
    go_wp2_with fail
    refine (implEntrySets_c _ ⟨s, gs, ps⟩ _ R b HP.out ((HO12.out.mz n1 n2).later (Below.refl _ _))).mono ?_
    rintro e w13 ⟨ah, ch, vsh, eSh, eIh, rfl, hoh, hb13⟩
    have z13 : w12.heap.size ≤ w13.heap.size := by have := hb13.size; (try simp at this); omega
    have q13_0 : w13.cell? ⟨w.heap.size, 0, none⟩ = some (.int .i64 s) := by rw [hb13.cell (p := ⟨w.heap.size, 0, none⟩) (by first | omega | (simp; done) | (simp; omega) | (dsimp only; omega))]; first | exact q12_0 | (rw [World.cell?_alloc_past _ _ _ (by omega)]; exact q12_0) | (simp [go_sem]; done)
    have q13_1 : w13.cell? ⟨w.heap.size, 1, none⟩ = some (.slice ad gs.length cd) := by rw [hb13.cell (p := ⟨w.heap.size, 1, none⟩) (by first | omega | (simp; done) | (simp; omega) | (dsimp only; omega))]; first | exact q12_1 | (rw [World.cell?_alloc_past _ _ _ (by omega)]; exact q12_1) | (simp [go_sem]; done)
    have q13_2 : w13.cell? ⟨w.heap.size, 2, none⟩ = some (.slice ak ps.length ck) := by rw [hb13.cell (p := ⟨w.heap.size, 2, none⟩) (by first | omega | (simp; done) | (simp; omega) | (dsimp only; omega))]; first | exact q12_2 | (rw [World.cell?_alloc_past _ _ _ (by omega)]; exact q12_2) | (simp [go_sem]; done)
    have q13_3 : w13.cell? ⟨w4.heap.size, 0, none⟩ = some (.int .i64 s) := by rw [hb13.cell (p := ⟨w4.heap.size, 0, none⟩) (by first | omega | (simp; done) | (simp; omega) | (dsimp only; omega))]; first | exact q12_3 | (rw [World.cell?_alloc_past _ _ _ (by omega)]; exact q12_3) | (simp [go_sem]; done)
    have q13_4 : w13.cell? ⟨w4.heap.size, 1, none⟩ = some (.slice ad4 gs.length cd4) := by rw [hb13.cell (p := ⟨w4.heap.size, 1, none⟩) (by first | omega | (simp; done) | (simp; omega) | (dsimp only; omega))]; first | exact q12_4 | (rw [World.cell?_alloc_past _ _ _ (by omega)]; exact q12_4) | (simp [go_sem]; done)
    have q13_5 : w13.cell? ⟨w4.heap.size, 2, none⟩ = some (.slice ak4 ps.length ck4) := by rw [hb13.cell (p := ⟨w4.heap.size, 2, none⟩) (by first | omega | (simp; done) | (simp; omega) | (dsimp only; omega))]; first | exact q12_5 | (rw [World.cell?_alloc_past _ _ _ (by omega)]; exact q12_5) | (simp [go_sem]; done)
    have B0_13 : Hid (Below w.heap.size w w13) := (below_then B0_12.out hb13)
    have B3_13 : Hid (Below w3.heap.size w3 w13) := (below_then B3_12.out hb13)
    have B11_13 : Hid (Below w11.heap.size w11 w13) := (below_then B11_12.out hb13)
    have B12_13 : Hid (Below w12.heap.size w12 w13) := (below_then (Below.refl _ _) hb13)
    have HH := Lib.hid hoh; clear hoh
    go_wp2_with fail
    refine (eqIntSS_c _ _ _ _ R.length R _ rfl HH.out.tb (hw.later B3_13.out) (by omega) (fun i hi => by have := HRR.out i hi; omega)).mono ?_
    rintro e w14 ⟨rfl, hb14⟩
    have z14 : w13.heap.size ≤ w14.heap.size := by have := hb14.size; (try simp at this); omega
    have B0_14 : Hid (Below w.heap.size w w14) := (below_then B0_13.out hb14)
    have B3_14 : Hid (Below w3.heap.size w3 w14) := (below_then B3_13.out hb14)
    have B11_14 : Hid (Below w11.heap.size w11 w14) := (below_then B11_13.out hb14)
    go_wp2_with fail
    have hdm : decide (1 + ((sumT R R.length : Nat) : Int) < 0) = false := by simp; omega
    refine (heldIntSS_c _ _ R.length R _ _ (HM.out.later B11_14.out) rfl (by omega) (fun i hi => HRR.out i hi) (by omega) (by omega)).mono ?_
    rintro e wh ⟨rfl, rfl⟩
    go_wp2_with fail
    go_ret
    exact ⟨rfl, B0_14.out⟩
end Go.Proofs.Ytldogbahbjompaa
