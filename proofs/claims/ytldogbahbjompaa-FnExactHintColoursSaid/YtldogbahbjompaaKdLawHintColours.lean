/- The law FnExactHintColours, walked. -/
import Derived.Test.YtldogbahbjompaaKdLaws2
import Derived.Test.YtldogbahbjompaaKdOpen
import Derived.Test.YtldogbahbjompaaKdWay6
import Derived.Deep.RegionHeld3
set_option linter.unusedVariables false
set_option linter.unusedSimpArgs false
namespace Go.Proofs.Ytldogbahbjompaa
open Go.RowKit Go.KD
attribute [local go_sem] later_cell later_frozen
set_option maxHeartbeats 8000000 in
theorem lawHintColours_c (ad ak : Option Addr) (cd ck : Nat) (m : Mz) (as1 : Option Addr) (cs1 : Nat) (ls1 : List Int) (w : World) (hd : D3C w ad m.doors) (hk : IC w ak m.keys) (nd : m.doors.length ≤ maxLen) (nk : m.keys.length ≤ maxLen) (hs1 : IC w as1 ls1) (ns1 : ls1.length ≤ maxLen) (ws1 : ∀ x ∈ ls1, wfI x) :
    Calls Try.prog 4 #[.agg #[.int .i64 m.size, .slice ad m.doors.length cd, .slice ak m.keys.length ck], .slice as1 ls1.length cs1] w fun e w' => e = .returned (.bool true) ∧ Below w.heap.size w w' := by
  obtain ⟨s, gs, ps⟩ := m
  dsimp only at *
  by_cases g1 : ls1.length ≤ 1048576
  case neg =>
    have gb1 : decide ((1048576 : Int) < (ls1.length : Int)) = true := by simp; omega
    go_enter Try.func4, Try.ntmps4
    go_wp2_with fail
    go_ret
    exact ⟨rfl, by (repeat (first | exact Below.refl _ _ | apply Below.drew | apply below_drewN | (refine Below.setCell ?_ (by first | omega | (simp; done) | (simp; omega) | (dsimp only; omega)) _) | (refine Below.alloc ?_ (by first | omega | (simp; done) | (simp; omega) | (dsimp only; omega)) _)))⟩
  case pos =>
    have gb1 : decide ((1048576 : Int) < (ls1.length : Int)) = false := by simp; omega
    by_cases h0 : szMzP 1048576 gs.length ps.length < 0
    case pos =>
      have hd0 : decide (szMzP 1048576 gs.length ps.length < 0) = true := decide_eq_true h0
      clear h0
      go_enter Try.func4, Try.ntmps4
      go_wp2_with (go_at_call 11; refine (szMaze_c _ _ _ _ _ _ _ _ _ (by omega) (by omega) nd nk).mono ?_; rintro e w1 ⟨rfl, hb1⟩)
      go_ret
      exact ⟨rfl, below_then (by (repeat (first | exact Below.refl _ _ | apply Below.drew | apply below_drewN | (refine Below.setCell ?_ (by first | omega | (simp; done) | (simp; omega) | (dsimp only; omega)) _) | (refine Below.alloc ?_ (by first | omega | (simp; done) | (simp; omega) | (dsimp only; omega)) _)))) hb1⟩
    case neg =>
      have hd0 : decide (szMzP 1048576 gs.length ps.length < 0) = false := decide_eq_false h0
      obtain ⟨n1, n2⟩ := szMzP_le h0
      clear h0
      have hm : MzAt w (.agg #[.int .i64 s, .slice ad gs.length cd, .slice ak ps.length ck]) ⟨s, gs, ps⟩ := ⟨⟨ad, cd, ak, ck, rfl, hd, hk⟩, n1, n2⟩
      go_enter Try.func4, Try.ntmps4
      have q0_0 : True := trivial
      have q0_1 : True := trivial
      have q0_2 : True := trivial
      go_wp2_with fail
      refine (szMaze_c _ _ _ _ _ _ _ _ _ (by omega) (by omega) nd nk).mono ?_
      rintro e w1 ⟨rfl, hb1⟩
      have z1 : w.heap.size + 1 ≤ w1.heap.size := by have := hb1.size; (try simp at this); omega
      have HB1 : Hid (Below w.heap.size w w1) := below_then (by (repeat (first | exact Below.refl _ _ | apply Below.drew | apply below_drewN | (refine Below.setCell ?_ (by first | omega | (simp; done) | (simp; omega) | (dsimp only; omega)) _) | (refine Below.alloc ?_ (by first | omega | (simp; done) | (simp; omega) | (dsimp only; omega)) _)))) hb1
      have q1_0 : w1.cell? ⟨w.heap.size, 0, none⟩ = some (.int .i64 s) := by rw [hb1.cell (p := ⟨w.heap.size, 0, none⟩) (by first | omega | (simp; done) | (simp; omega) | (dsimp only; omega))]; first | exact q0_0 | (rw [World.cell?_alloc_past _ _ _ (by omega)]; exact q0_0) | (simp [*, go_sem]; done)
      have q1_1 : w1.cell? ⟨w.heap.size, 1, none⟩ = some (.slice ad gs.length cd) := by rw [hb1.cell (p := ⟨w.heap.size, 1, none⟩) (by first | omega | (simp; done) | (simp; omega) | (dsimp only; omega))]; first | exact q0_1 | (rw [World.cell?_alloc_past _ _ _ (by omega)]; exact q0_1) | (simp [*, go_sem]; done)
      have q1_2 : w1.cell? ⟨w.heap.size, 2, none⟩ = some (.slice ak ps.length ck) := by rw [hb1.cell (p := ⟨w.heap.size, 2, none⟩) (by first | omega | (simp; done) | (simp; omega) | (dsimp only; omega))]; first | exact q0_2 | (rw [World.cell?_alloc_past _ _ _ (by omega)]; exact q0_2) | (simp [*, go_sem]; done)
      go_wp2_with fail
      refine (toMaze_c _ _ _ (hm.later HB1.out)).mono ?_
      rintro e w2 ⟨u2, rfl, ho2, hb2⟩
      have z2 : w1.heap.size ≤ w2.heap.size := by have := hb2.size; (try simp at this); omega
      have HB2 : Hid (Below w.heap.size w w2) := below_then (HB1.out) hb2
      have q2_0 : w2.cell? ⟨w.heap.size, 0, none⟩ = some (.int .i64 s) := by rw [hb2.cell (p := ⟨w.heap.size, 0, none⟩) (by first | omega | (simp; done) | (simp; omega) | (dsimp only; omega))]; first | exact q1_0 | (rw [World.cell?_alloc_past _ _ _ (by omega)]; exact q1_0) | (simp [*, go_sem]; done)
      have q2_1 : w2.cell? ⟨w.heap.size, 1, none⟩ = some (.slice ad gs.length cd) := by rw [hb2.cell (p := ⟨w.heap.size, 1, none⟩) (by first | omega | (simp; done) | (simp; omega) | (dsimp only; omega))]; first | exact q1_1 | (rw [World.cell?_alloc_past _ _ _ (by omega)]; exact q1_1) | (simp [*, go_sem]; done)
      have q2_2 : w2.cell? ⟨w.heap.size, 2, none⟩ = some (.slice ak ps.length ck) := by rw [hb2.cell (p := ⟨w.heap.size, 2, none⟩) (by first | omega | (simp; done) | (simp; omega) | (dsimp only; omega))]; first | exact q1_2 | (rw [World.cell?_alloc_past _ _ _ (by omega)]; exact q1_2) | (simp [*, go_sem]; done)
      have HO2 := Lib.hid ho2; clear ho2
      go_wp2_with fail
      refine (toIntS_c _ _ _ _ (hs1.later HB2.out) g1).mono ?_
      rintro e w3 ⟨v3, rfl, ho3, hb3⟩
      have z3 : w2.heap.size ≤ w3.heap.size := by have := hb3.size; (try simp at this); omega
      have HB3 : Hid (Below w.heap.size w w3) := below_then (HB2.out) hb3
      have q3_0 : w3.cell? ⟨w.heap.size, 0, none⟩ = some (.int .i64 s) := by rw [hb3.cell (p := ⟨w.heap.size, 0, none⟩) (by first | omega | (simp; done) | (simp; omega) | (dsimp only; omega))]; first | exact q2_0 | (rw [World.cell?_alloc_past _ _ _ (by omega)]; exact q2_0) | (simp [*, go_sem]; done)
      have q3_1 : w3.cell? ⟨w.heap.size, 1, none⟩ = some (.slice ad gs.length cd) := by rw [hb3.cell (p := ⟨w.heap.size, 1, none⟩) (by first | omega | (simp; done) | (simp; omega) | (dsimp only; omega))]; first | exact q2_1 | (rw [World.cell?_alloc_past _ _ _ (by omega)]; exact q2_1) | (simp [*, go_sem]; done)
      have q3_2 : w3.cell? ⟨w.heap.size, 2, none⟩ = some (.slice ak ps.length ck) := by rw [hb3.cell (p := ⟨w.heap.size, 2, none⟩) (by first | omega | (simp; done) | (simp; omega) | (dsimp only; omega))]; first | exact q2_2 | (rw [World.cell?_alloc_past _ _ _ (by omega)]; exact q2_2) | (simp [*, go_sem]; done)
      have HO3 := Lib.hid (Own.of ho3); clear ho3
      obtain ⟨a3, c3, rfl, -, hi3⟩ := HO3.out.ic
      go_wp2_with fail
      refine (specHintColours_c _ ⟨s, gs, ps⟩ _ _ ls1 _ ((HO2.out.mz n1 n2).later hb3) hi3 g1 ws1).mono ?_
      rintro e w4 ⟨rfl, hb4⟩
      have z4 : w3.heap.size ≤ w4.heap.size := by have := hb4.size; (try simp at this); omega
      have HB4 : Hid (Below w.heap.size w w4) := below_then (HB3.out) hb4
      have q4_0 : w4.cell? ⟨w.heap.size, 0, none⟩ = some (.int .i64 s) := by rw [hb4.cell (p := ⟨w.heap.size, 0, none⟩) (by first | omega | (simp; done) | (simp; omega) | (dsimp only; omega))]; first | exact q3_0 | (rw [World.cell?_alloc_past _ _ _ (by omega)]; exact q3_0) | (simp [*, go_sem]; done)
      have q4_1 : w4.cell? ⟨w.heap.size, 1, none⟩ = some (.slice ad gs.length cd) := by rw [hb4.cell (p := ⟨w.heap.size, 1, none⟩) (by first | omega | (simp; done) | (simp; omega) | (dsimp only; omega))]; first | exact q3_1 | (rw [World.cell?_alloc_past _ _ _ (by omega)]; exact q3_1) | (simp [*, go_sem]; done)
      have q4_2 : w4.cell? ⟨w.heap.size, 2, none⟩ = some (.slice ak ps.length ck) := by rw [hb4.cell (p := ⟨w.heap.size, 2, none⟩) (by first | omega | (simp; done) | (simp; omega) | (dsimp only; omega))]; first | exact q3_2 | (rw [World.cell?_alloc_past _ _ _ (by omega)]; exact q3_2) | (simp [*, go_sem]; done)
      go_wp2_with fail
      refine (toMaze_c _ _ _ (hm.later HB4.out)).mono ?_
      rintro e w5 ⟨u5, rfl, ho5, hb5⟩
      have z5 : w4.heap.size ≤ w5.heap.size := by have := hb5.size; (try simp at this); omega
      have HB5 : Hid (Below w.heap.size w w5) := below_then (HB4.out) hb5
      have q5_0 : w5.cell? ⟨w.heap.size, 0, none⟩ = some (.int .i64 s) := by rw [hb5.cell (p := ⟨w.heap.size, 0, none⟩) (by first | omega | (simp; done) | (simp; omega) | (dsimp only; omega))]; first | exact q4_0 | (rw [World.cell?_alloc_past _ _ _ (by omega)]; exact q4_0) | (simp [*, go_sem]; done)
      have q5_1 : w5.cell? ⟨w.heap.size, 1, none⟩ = some (.slice ad gs.length cd) := by rw [hb5.cell (p := ⟨w.heap.size, 1, none⟩) (by first | omega | (simp; done) | (simp; omega) | (dsimp only; omega))]; first | exact q4_1 | (rw [World.cell?_alloc_past _ _ _ (by omega)]; exact q4_1) | (simp [*, go_sem]; done)
      have q5_2 : w5.cell? ⟨w.heap.size, 2, none⟩ = some (.slice ak ps.length ck) := by rw [hb5.cell (p := ⟨w.heap.size, 2, none⟩) (by first | omega | (simp; done) | (simp; omega) | (dsimp only; omega))]; first | exact q4_2 | (rw [World.cell?_alloc_past _ _ _ (by omega)]; exact q4_2) | (simp [*, go_sem]; done)
      have HO5 := Lib.hid ho5; clear ho5
      obtain ⟨⟨ad4, cd4, ak4, ck4, rfl, hd4, hk4⟩, _, _⟩ := HO5.out.mz n1 n2
      go_wp2_with fail
      have q5_3 : True := trivial
      have q5_4 : True := trivial
      have q5_5 : True := trivial
      refine (toIntS_c _ _ _ _ (hs1.later (HB5.out.alloc (by first | omega | (simp; done) | (simp; omega) | (dsimp only; omega)) _)) g1).mono ?_
      rintro e w6 ⟨v6, rfl, ho6, hb6⟩
      have z6 : w5.heap.size + 1 ≤ w6.heap.size := by have := hb6.size; (try simp at this); omega
      have HB6 : Hid (Below w.heap.size w w6) := below_then (HB5.out.alloc (by first | omega | (simp; done) | (simp; omega) | (dsimp only; omega)) _) hb6
      have q6_0 : w6.cell? ⟨w.heap.size, 0, none⟩ = some (.int .i64 s) := by rw [hb6.cell (p := ⟨w.heap.size, 0, none⟩) (by first | omega | (simp; done) | (simp; omega) | (dsimp only; omega))]; first | exact q5_0 | (rw [World.cell?_alloc_past _ _ _ (by omega)]; exact q5_0) | (simp [*, go_sem]; done)
      have q6_1 : w6.cell? ⟨w.heap.size, 1, none⟩ = some (.slice ad gs.length cd) := by rw [hb6.cell (p := ⟨w.heap.size, 1, none⟩) (by first | omega | (simp; done) | (simp; omega) | (dsimp only; omega))]; first | exact q5_1 | (rw [World.cell?_alloc_past _ _ _ (by omega)]; exact q5_1) | (simp [*, go_sem]; done)
      have q6_2 : w6.cell? ⟨w.heap.size, 2, none⟩ = some (.slice ak ps.length ck) := by rw [hb6.cell (p := ⟨w.heap.size, 2, none⟩) (by first | omega | (simp; done) | (simp; omega) | (dsimp only; omega))]; first | exact q5_2 | (rw [World.cell?_alloc_past _ _ _ (by omega)]; exact q5_2) | (simp [*, go_sem]; done)
      have q6_3 : w6.cell? ⟨w5.heap.size, 0, none⟩ = some (.int .i64 s) := by rw [hb6.cell (p := ⟨w5.heap.size, 0, none⟩) (by first | omega | (simp; done) | (simp; omega) | (dsimp only; omega))]; first | exact q5_3 | (rw [World.cell?_alloc_past _ _ _ (by omega)]; exact q5_3) | (simp [*, go_sem]; done)
      have q6_4 : w6.cell? ⟨w5.heap.size, 1, none⟩ = some (.slice ad4 gs.length cd4) := by rw [hb6.cell (p := ⟨w5.heap.size, 1, none⟩) (by first | omega | (simp; done) | (simp; omega) | (dsimp only; omega))]; first | exact q5_4 | (rw [World.cell?_alloc_past _ _ _ (by omega)]; exact q5_4) | (simp [*, go_sem]; done)
      have q6_5 : w6.cell? ⟨w5.heap.size, 2, none⟩ = some (.slice ak4 ps.length ck4) := by rw [hb6.cell (p := ⟨w5.heap.size, 2, none⟩) (by first | omega | (simp; done) | (simp; omega) | (dsimp only; omega))]; first | exact q5_5 | (rw [World.cell?_alloc_past _ _ _ (by omega)]; exact q5_5) | (simp [*, go_sem]; done)
      have HO6 := Lib.hid (Own.of ho6); clear ho6
      obtain ⟨a6, c6, rfl, -, hi6⟩ := HO6.out.ic
      go_wp2_with fail
      refine (implHintColours_c _ ⟨s, gs, ps⟩ _ _ ls1 _ ((HO5.out.mz n1 n2).later (below_then ((Below.refl _ _).alloc (Nat.le_refl _) _) hb6)) hi6 g1 ws1).mono ?_
      rintro e w7 ⟨rfl, hb7⟩
      have z7 : w6.heap.size ≤ w7.heap.size := by have := hb7.size; (try simp at this); omega
      have HB7 : Hid (Below w.heap.size w w7) := below_then (HB6.out) hb7
      have q7_0 : w7.cell? ⟨w.heap.size, 0, none⟩ = some (.int .i64 s) := by rw [hb7.cell (p := ⟨w.heap.size, 0, none⟩) (by first | omega | (simp; done) | (simp; omega) | (dsimp only; omega))]; first | exact q6_0 | (rw [World.cell?_alloc_past _ _ _ (by omega)]; exact q6_0) | (simp [*, go_sem]; done)
      have q7_1 : w7.cell? ⟨w.heap.size, 1, none⟩ = some (.slice ad gs.length cd) := by rw [hb7.cell (p := ⟨w.heap.size, 1, none⟩) (by first | omega | (simp; done) | (simp; omega) | (dsimp only; omega))]; first | exact q6_1 | (rw [World.cell?_alloc_past _ _ _ (by omega)]; exact q6_1) | (simp [*, go_sem]; done)
      have q7_2 : w7.cell? ⟨w.heap.size, 2, none⟩ = some (.slice ak ps.length ck) := by rw [hb7.cell (p := ⟨w.heap.size, 2, none⟩) (by first | omega | (simp; done) | (simp; omega) | (dsimp only; omega))]; first | exact q6_2 | (rw [World.cell?_alloc_past _ _ _ (by omega)]; exact q6_2) | (simp [*, go_sem]; done)
      have q7_3 : w7.cell? ⟨w5.heap.size, 0, none⟩ = some (.int .i64 s) := by rw [hb7.cell (p := ⟨w5.heap.size, 0, none⟩) (by first | omega | (simp; done) | (simp; omega) | (dsimp only; omega))]; first | exact q6_3 | (rw [World.cell?_alloc_past _ _ _ (by omega)]; exact q6_3) | (simp [*, go_sem]; done)
      have q7_4 : w7.cell? ⟨w5.heap.size, 1, none⟩ = some (.slice ad4 gs.length cd4) := by rw [hb7.cell (p := ⟨w5.heap.size, 1, none⟩) (by first | omega | (simp; done) | (simp; omega) | (dsimp only; omega))]; first | exact q6_4 | (rw [World.cell?_alloc_past _ _ _ (by omega)]; exact q6_4) | (simp [*, go_sem]; done)
      have q7_5 : w7.cell? ⟨w5.heap.size, 2, none⟩ = some (.slice ak4 ps.length ck4) := by rw [hb7.cell (p := ⟨w5.heap.size, 2, none⟩) (by first | omega | (simp; done) | (simp; omega) | (dsimp only; omega))]; first | exact q6_5 | (rw [World.cell?_alloc_past _ _ _ (by omega)]; exact q6_5) | (simp [*, go_sem]; done)
      go_wp2_with fail
      go_region_held3 (fun W => W.cell? ⟨w.heap.size, 0, none⟩ = some (.int .i64 s) ∧ W.cell? ⟨w.heap.size, 1, none⟩ = some (.slice ad gs.length cd) ∧ W.cell? ⟨w.heap.size, 2, none⟩ = some (.slice ak ps.length ck) ∧ W.cell? ⟨w5.heap.size, 0, none⟩ = some (.int .i64 s) ∧ W.cell? ⟨w5.heap.size, 1, none⟩ = some (.slice ad4 gs.length cd4) ∧ W.cell? ⟨w5.heap.size, 2, none⟩ = some (.slice ak4 ps.length ck4))
        (first | exact ⟨q7_0, q7_1, q7_2, q7_3, q7_4, q7_5⟩ | exact ⟨q8_0, q8_1, q8_2, q8_3, q8_4, q8_5⟩ | exact ⟨q9_0, q9_1, q9_2, q9_3, q9_4, q9_5⟩)
        (first | (go_at_call 13; refine (toMaze_c _ _ _ (hm.later HB7.out.drew)).mono ?_; rintro e w8 ⟨u8, rfl, ho8, hb8⟩; have HO8 := Lib.hid ho8; clear ho8; have HB8 : Hid (Below w.heap.size w w8) := below_then HB7.out.drew hb8; have q8_0 : w8.cell? ⟨w.heap.size, 0, none⟩ = some (.int .i64 s) := (hb8.cell (p := ⟨w.heap.size, 0, none⟩) (show w.heap.size < w7.heap.size from by omega)).trans q7_0; have q8_1 : w8.cell? ⟨w.heap.size, 1, none⟩ = some (.slice ad gs.length cd) := (hb8.cell (p := ⟨w.heap.size, 1, none⟩) (show w.heap.size < w7.heap.size from by omega)).trans q7_1; have q8_2 : w8.cell? ⟨w.heap.size, 2, none⟩ = some (.slice ak ps.length ck) := (hb8.cell (p := ⟨w.heap.size, 2, none⟩) (show w.heap.size < w7.heap.size from by omega)).trans q7_2; have q8_3 : w8.cell? ⟨w5.heap.size, 0, none⟩ = some (.int .i64 s) := (hb8.cell (p := ⟨w5.heap.size, 0, none⟩) (show w5.heap.size < w7.heap.size from by omega)).trans q7_3; have q8_4 : w8.cell? ⟨w5.heap.size, 1, none⟩ = some (.slice ad4 gs.length cd4) := (hb8.cell (p := ⟨w5.heap.size, 1, none⟩) (show w5.heap.size < w7.heap.size from by omega)).trans q7_4; have q8_5 : w8.cell? ⟨w5.heap.size, 2, none⟩ = some (.slice ak4 ps.length ck4) := (hb8.cell (p := ⟨w5.heap.size, 2, none⟩) (show w5.heap.size < w7.heap.size from by omega)).trans q7_5) | (go_at_call 16; refine (eqMaze_c _ _ ⟨s, gs, ps⟩ ⟨s, gs, ps⟩ _ ((HO5.out.mz n1 n2).later (below_then (below_then (below_then ((Below.refl _ _).alloc (Nat.le_refl _) _) hb6) hb7).drew hb8)) (HO8.out.mz n1 n2)).mono ?_; rintro e w9 ⟨rfl, hb9⟩; have HB9 : Hid (Below w.heap.size w w9) := below_then HB8.out hb9; have q9_0 : w9.cell? ⟨w.heap.size, 0, none⟩ = some (.int .i64 s) := (hb9.cell (p := ⟨w.heap.size, 0, none⟩) (show w.heap.size < w8.heap.size from (by have : w7.heap.size ≤ w8.heap.size := hb8.size; omega))).trans q8_0; have q9_1 : w9.cell? ⟨w.heap.size, 1, none⟩ = some (.slice ad gs.length cd) := (hb9.cell (p := ⟨w.heap.size, 1, none⟩) (show w.heap.size < w8.heap.size from (by have : w7.heap.size ≤ w8.heap.size := hb8.size; omega))).trans q8_1; have q9_2 : w9.cell? ⟨w.heap.size, 2, none⟩ = some (.slice ak ps.length ck) := (hb9.cell (p := ⟨w.heap.size, 2, none⟩) (show w.heap.size < w8.heap.size from (by have : w7.heap.size ≤ w8.heap.size := hb8.size; omega))).trans q8_2; have q9_3 : w9.cell? ⟨w5.heap.size, 0, none⟩ = some (.int .i64 s) := (hb9.cell (p := ⟨w5.heap.size, 0, none⟩) (show w5.heap.size < w8.heap.size from (by have : w7.heap.size ≤ w8.heap.size := hb8.size; omega))).trans q8_3; have q9_4 : w9.cell? ⟨w5.heap.size, 1, none⟩ = some (.slice ad4 gs.length cd4) := (hb9.cell (p := ⟨w5.heap.size, 1, none⟩) (show w5.heap.size < w8.heap.size from (by have : w7.heap.size ≤ w8.heap.size := hb8.size; omega))).trans q8_4; have q9_5 : w9.cell? ⟨w5.heap.size, 2, none⟩ = some (.slice ak4 ps.length ck4) := (hb9.cell (p := ⟨w5.heap.size, 2, none⟩) (show w5.heap.size < w8.heap.size from (by have : w7.heap.size ≤ w8.heap.size := hb8.size; omega))).trans q8_5))
      have z9 : w7.heap.size ≤ w9.heap.size := by have h1 : w7.heap.size ≤ w8.heap.size := hb8.size; have h2 := hb9.size; omega
      go_wp2_with fail
      refine (toIntS_c _ _ _ _ (hs1.later HB9.out) g1).mono ?_
      rintro e w10 ⟨v10, rfl, ho10, hb10⟩
      have z10 : w9.heap.size ≤ w10.heap.size := by have := hb10.size; (try simp at this); omega
      have HB10 : Hid (Below w.heap.size w w10) := below_then (HB9.out) hb10
      have HO10 := Lib.hid (Own.of ho10); clear ho10
      obtain ⟨a10, c10, rfl, -, hi10⟩ := HO10.out.ic
      go_wp2_with fail
      refine (eqIntS_c _ _ _ _ ls1 ls1 _ (hi6.later (below_then (below_then (below_then hb7.drew hb8) hb9) hb10)) hi10 g1 g1).mono ?_
      rintro e w11 ⟨rfl, hb11⟩
      have z11 : w10.heap.size ≤ w11.heap.size := by have := hb11.size; (try simp at this); omega
      have HB11 : Hid (Below w.heap.size w w11) := below_then (HB10.out) hb11
      go_wp2_with fail
      go_ret
      exact ⟨rfl, HB11.out⟩
end Go.Proofs.Ytldogbahbjompaa
