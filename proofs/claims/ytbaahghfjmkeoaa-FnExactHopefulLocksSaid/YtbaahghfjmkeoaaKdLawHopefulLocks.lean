/- The law FnExactHopefulLocks, walked. -/
import Derived.Test.YtbaahghfjmkeoaaKdChg
import Derived.Test.YtbaahghfjmkeoaaKdOpen
import Derived.Test.YtbaahghfjmkeoaaKdHopeI
import Derived.Test.YtbaahghfjmkeoaaKdHope3
import Derived.Deep.RegionHeld3
set_option linter.unusedVariables false
set_option linter.unusedSimpArgs false
namespace Go.Proofs.Ytbaahghfjmkeoaa
open Go.RowKit Go.KD
attribute [local go_sem] later_cell later_frozen
set_option maxHeartbeats 16000000 in
theorem lawHopefulLocks_c (ad ak : Option Addr) (cd ck : Nat) (m : Mz) (as1 : Option Addr) (cs1 : Nat) (ls1 : List Int) (w : World) (hd : D3C w ad m.doors) (hk : IC w ak m.keys) (nd : m.doors.length ≤ maxLen) (nk : m.keys.length ≤ maxLen) (hs1 : IC w as1 ls1) (ns1 : ls1.length ≤ maxLen) (ws1 : ∀ x ∈ ls1, wfI x) :
    Calls Try.prog 3 #[.agg #[.int .i64 m.size, .slice ad m.doors.length cd, .slice ak m.keys.length ck], .slice as1 ls1.length cs1] w fun e w' => e = .returned (.bool true) ∧ Below w.heap.size w w' := by
  obtain ⟨s, gs, ps⟩ := m
  dsimp only at *
  by_cases g1 : ls1.length ≤ 1048576
  case neg =>
    have gb1 : decide ((1048576 : Int) < (ls1.length : Int)) = true := by simp; omega
    go_enter Try.func3, Try.ntmps3
    go_wp2_with fail
    go_ret
    exact ⟨rfl, by (repeat (first | exact Below.refl _ _ | apply Below.drew | apply below_drewN | (refine Below.setCell ?_ (by first | omega | (simp; done) | (simp; omega) | (dsimp only; omega)) _) | (refine Below.alloc ?_ (by first | omega | (simp; done) | (simp; omega) | (dsimp only; omega)) _)))⟩
  case pos =>
    have gb1 : decide ((1048576 : Int) < (ls1.length : Int)) = false := by simp; omega
    by_cases h0 : szMzP 1048576 gs.length ps.length < 0
    case pos =>
      have hd0 : decide (szMzP 1048576 gs.length ps.length < 0) = true := decide_eq_true h0
      clear h0
      go_enter Try.func3, Try.ntmps3
      go_wp2_with (go_at_call 7; refine (szMaze_c _ _ _ _ _ _ _ _ _ (by omega) (by omega) nd nk).mono ?_; rintro e w1 ⟨rfl, hb1⟩)
      go_ret
      exact ⟨rfl, below_then (by (repeat (first | exact Below.refl _ _ | apply Below.drew | apply below_drewN | (refine Below.setCell ?_ (by first | omega | (simp; done) | (simp; omega) | (dsimp only; omega)) _) | (refine Below.alloc ?_ (by first | omega | (simp; done) | (simp; omega) | (dsimp only; omega)) _)))) hb1⟩
    case neg =>
      have hd0 : decide (szMzP 1048576 gs.length ps.length < 0) = false := decide_eq_false h0
      obtain ⟨n1, n2⟩ := szMzP_le h0
      clear h0
      have hm : MzAt w (.agg #[.int .i64 s, .slice ad gs.length cd, .slice ak ps.length ck]) ⟨s, gs, ps⟩ := ⟨⟨ad, cd, ak, ck, rfl, hd, hk⟩, n1, n2⟩
      obtain ⟨R, b, hp⟩ : ∃ R b, pHopefulLocks ⟨s, gs, ps⟩ ls1 = (R, b) := ⟨_, _, rfl⟩
      have hR : R.length ≤ 1000000 := by have := pHopefulLocks_len ⟨s, gs, ps⟩ ls1; rw [hp] at this; exact this
      have HP := Lib.hid hp; clear hp
      go_enter Try.func3, Try.ntmps3
      go_wp2_with fail
      refine (szMaze_c _ _ _ _ _ _ _ _ _ (by omega) (by omega) nd nk).mono ?_
      rintro e w1 ⟨rfl, hb1⟩
      have z1 : w.heap.size + 1 ≤ w1.heap.size := by have := hb1.size; (try simp at this); omega
      have q1_0 : w1.cell? ⟨w.heap.size, 0, none⟩ = some (.int .i64 s) := by rw [hb1.cell (p := ⟨w.heap.size, 0, none⟩) (by simp)]; simp [go_sem]
      have q1_1 : w1.cell? ⟨w.heap.size, 1, none⟩ = some (.slice ad gs.length cd) := by rw [hb1.cell (p := ⟨w.heap.size, 1, none⟩) (by simp)]; simp [go_sem]
      have q1_2 : w1.cell? ⟨w.heap.size, 2, none⟩ = some (.slice ak ps.length ck) := by rw [hb1.cell (p := ⟨w.heap.size, 2, none⟩) (by simp)]; simp [go_sem]
      have B0_1 : Hid (Below w.heap.size w w1) := below_then (by (repeat (first | exact Below.refl _ _ | apply Below.drew | apply below_drewN | (refine Below.setCell ?_ (by first | omega | (simp; done) | (simp; omega) | (dsimp only; omega)) _) | (refine Below.alloc ?_ (by first | omega | (simp; done) | (simp; omega) | (dsimp only; omega)) _)))) hb1
      go_wp2_with fail
      refine (toMaze_c _ _ _ (hm.later B0_1.out)).mono ?_
      rintro e w2 ⟨u2, rfl, ho2, hb2⟩
      have z2 : w1.heap.size ≤ w2.heap.size := by have := hb2.size; (try simp at this); omega
      have q2_0 : w2.cell? ⟨w.heap.size, 0, none⟩ = some (.int .i64 s) := by rw [hb2.cell (p := ⟨w.heap.size, 0, none⟩) (by first | omega | (simp; done) | (simp; omega) | (dsimp only; omega))]; first | exact q1_0 | (rw [World.cell?_alloc_past _ _ _ (by omega)]; exact q1_0) | (simp [go_sem]; done)
      have q2_1 : w2.cell? ⟨w.heap.size, 1, none⟩ = some (.slice ad gs.length cd) := by rw [hb2.cell (p := ⟨w.heap.size, 1, none⟩) (by first | omega | (simp; done) | (simp; omega) | (dsimp only; omega))]; first | exact q1_1 | (rw [World.cell?_alloc_past _ _ _ (by omega)]; exact q1_1) | (simp [go_sem]; done)
      have q2_2 : w2.cell? ⟨w.heap.size, 2, none⟩ = some (.slice ak ps.length ck) := by rw [hb2.cell (p := ⟨w.heap.size, 2, none⟩) (by first | omega | (simp; done) | (simp; omega) | (dsimp only; omega))]; first | exact q1_2 | (rw [World.cell?_alloc_past _ _ _ (by omega)]; exact q1_2) | (simp [go_sem]; done)
      have B0_2 : Hid (Below w.heap.size w w2) := (below_then B0_1.out hb2)
      have HO2 := Lib.hid ho2; clear ho2
      go_wp2_with fail
      refine (toIntS_c _ _ _ _ (hs1.later B0_2.out) g1).mono ?_
      rintro e w3 ⟨v3, rfl, ho3, hb3⟩
      have z3 : w2.heap.size ≤ w3.heap.size := by have := hb3.size; (try simp at this); omega
      have q3_0 : w3.cell? ⟨w.heap.size, 0, none⟩ = some (.int .i64 s) := by rw [hb3.cell (p := ⟨w.heap.size, 0, none⟩) (by first | omega | (simp; done) | (simp; omega) | (dsimp only; omega))]; first | exact q2_0 | (rw [World.cell?_alloc_past _ _ _ (by omega)]; exact q2_0) | (simp [go_sem]; done)
      have q3_1 : w3.cell? ⟨w.heap.size, 1, none⟩ = some (.slice ad gs.length cd) := by rw [hb3.cell (p := ⟨w.heap.size, 1, none⟩) (by first | omega | (simp; done) | (simp; omega) | (dsimp only; omega))]; first | exact q2_1 | (rw [World.cell?_alloc_past _ _ _ (by omega)]; exact q2_1) | (simp [go_sem]; done)
      have q3_2 : w3.cell? ⟨w.heap.size, 2, none⟩ = some (.slice ak ps.length ck) := by rw [hb3.cell (p := ⟨w.heap.size, 2, none⟩) (by first | omega | (simp; done) | (simp; omega) | (dsimp only; omega))]; first | exact q2_2 | (rw [World.cell?_alloc_past _ _ _ (by omega)]; exact q2_2) | (simp [go_sem]; done)
      have B0_3 : Hid (Below w.heap.size w w3) := (below_then B0_2.out hb3)
      have B2_3 : Hid (Below w2.heap.size w2 w3) := (below_then (Below.refl _ _) hb3)
      have HO3 := Lib.hid (Own.of ho3); clear ho3
      obtain ⟨a3, c3, rfl, -, hi3⟩ := HO3.out.ic
      clear hi3
      go_wp2_with fail
      refine (specHopefulLocks_c _ ⟨s, gs, ps⟩ _ _ ls1 _ R b HP.out ((HO2.out.mz n1 n2).later B2_3.out) (ic_of (HO3.out.later (Below.refl _ _) (Nat.le_refl _))) g1 ws1 (own_caps HO3.out)).mono ?_
      rintro e w4 ⟨aw, cw, rfl, hw, hb4⟩
      have z4 : w3.heap.size ≤ w4.heap.size := by have := hb4.size; (try simp at this); omega
      have q4_0 : w4.cell? ⟨w.heap.size, 0, none⟩ = some (.int .i64 s) := by rw [hb4.cell (p := ⟨w.heap.size, 0, none⟩) (by first | omega | (simp; done) | (simp; omega) | (dsimp only; omega))]; first | exact q3_0 | (rw [World.cell?_alloc_past _ _ _ (by omega)]; exact q3_0) | (simp [go_sem]; done)
      have q4_1 : w4.cell? ⟨w.heap.size, 1, none⟩ = some (.slice ad gs.length cd) := by rw [hb4.cell (p := ⟨w.heap.size, 1, none⟩) (by first | omega | (simp; done) | (simp; omega) | (dsimp only; omega))]; first | exact q3_1 | (rw [World.cell?_alloc_past _ _ _ (by omega)]; exact q3_1) | (simp [go_sem]; done)
      have q4_2 : w4.cell? ⟨w.heap.size, 2, none⟩ = some (.slice ak ps.length ck) := by rw [hb4.cell (p := ⟨w.heap.size, 2, none⟩) (by first | omega | (simp; done) | (simp; omega) | (dsimp only; omega))]; first | exact q3_2 | (rw [World.cell?_alloc_past _ _ _ (by omega)]; exact q3_2) | (simp [go_sem]; done)
      have B0_4 : Hid (Below w.heap.size w w4) := (below_then B0_3.out hb4)
      have B2_4 : Hid (Below w2.heap.size w2 w4) := (below_then B2_3.out hb4)
      have B3_4 : Hid (Below w3.heap.size w3 w4) := (below_then (Below.refl _ _) hb4)
      go_wp2_with fail
      refine (toMaze_c _ _ _ (hm.later B0_4.out)).mono ?_
      rintro e w5 ⟨u5, rfl, ho5, hb5⟩
      have z5 : w4.heap.size ≤ w5.heap.size := by have := hb5.size; (try simp at this); omega
      have q5_0 : w5.cell? ⟨w.heap.size, 0, none⟩ = some (.int .i64 s) := by rw [hb5.cell (p := ⟨w.heap.size, 0, none⟩) (by first | omega | (simp; done) | (simp; omega) | (dsimp only; omega))]; first | exact q4_0 | (rw [World.cell?_alloc_past _ _ _ (by omega)]; exact q4_0) | (simp [go_sem]; done)
      have q5_1 : w5.cell? ⟨w.heap.size, 1, none⟩ = some (.slice ad gs.length cd) := by rw [hb5.cell (p := ⟨w.heap.size, 1, none⟩) (by first | omega | (simp; done) | (simp; omega) | (dsimp only; omega))]; first | exact q4_1 | (rw [World.cell?_alloc_past _ _ _ (by omega)]; exact q4_1) | (simp [go_sem]; done)
      have q5_2 : w5.cell? ⟨w.heap.size, 2, none⟩ = some (.slice ak ps.length ck) := by rw [hb5.cell (p := ⟨w.heap.size, 2, none⟩) (by first | omega | (simp; done) | (simp; omega) | (dsimp only; omega))]; first | exact q4_2 | (rw [World.cell?_alloc_past _ _ _ (by omega)]; exact q4_2) | (simp [go_sem]; done)
      have B0_5 : Hid (Below w.heap.size w w5) := (below_then B0_4.out hb5)
      have B4_5 : Hid (Below w4.heap.size w4 w5) := (below_then (Below.refl _ _) hb5)
      have HO5 := Lib.hid ho5; clear ho5
      obtain ⟨e43, e41, vd4, vk4, hu4, o43, o41, hap4⟩ := HO5.out
      obtain ⟨ad4, cd4, rfl⟩ := o43.slice
      obtain ⟨ak4, ck4, rfl⟩ := o41.slice
      subst hu4
      clear o43 o41 hap4
      go_wp2_with fail
      have q5_3 : True := trivial
      have q5_4 : True := trivial
      have q5_5 : True := trivial
      refine (toIntS_c _ _ _ _ (hs1.later (Below.alloc B0_5.out (by first | omega | (simp; done) | (simp; omega) | (dsimp only; omega)) _)) g1).mono ?_
      rintro e w6 ⟨v6, rfl, ho6, hb6⟩
      have z6 : w5.heap.size + 1 ≤ w6.heap.size := by have := hb6.size; (try simp at this); omega
      have q6_0 : w6.cell? ⟨w.heap.size, 0, none⟩ = some (.int .i64 s) := by rw [hb6.cell (p := ⟨w.heap.size, 0, none⟩) (by first | omega | (simp; done) | (simp; omega) | (dsimp only; omega))]; first | exact q5_0 | (rw [World.cell?_alloc_past _ _ _ (by omega)]; exact q5_0) | (simp [go_sem]; done)
      have q6_1 : w6.cell? ⟨w.heap.size, 1, none⟩ = some (.slice ad gs.length cd) := by rw [hb6.cell (p := ⟨w.heap.size, 1, none⟩) (by first | omega | (simp; done) | (simp; omega) | (dsimp only; omega))]; first | exact q5_1 | (rw [World.cell?_alloc_past _ _ _ (by omega)]; exact q5_1) | (simp [go_sem]; done)
      have q6_2 : w6.cell? ⟨w.heap.size, 2, none⟩ = some (.slice ak ps.length ck) := by rw [hb6.cell (p := ⟨w.heap.size, 2, none⟩) (by first | omega | (simp; done) | (simp; omega) | (dsimp only; omega))]; first | exact q5_2 | (rw [World.cell?_alloc_past _ _ _ (by omega)]; exact q5_2) | (simp [go_sem]; done)
      have q6_3 : w6.cell? ⟨w5.heap.size, 0, none⟩ = some (.int .i64 s) := by rw [hb6.cell (p := ⟨w5.heap.size, 0, none⟩) (by first | omega | (simp; done) | (simp; omega) | (dsimp only; omega))]; first | exact q5_3 | (rw [World.cell?_alloc_past _ _ _ (by omega)]; exact q5_3) | (simp [go_sem]; done)
      have q6_4 : w6.cell? ⟨w5.heap.size, 1, none⟩ = some (.slice ad4 gs.length cd4) := by rw [hb6.cell (p := ⟨w5.heap.size, 1, none⟩) (by first | omega | (simp; done) | (simp; omega) | (dsimp only; omega))]; first | exact q5_4 | (rw [World.cell?_alloc_past _ _ _ (by omega)]; exact q5_4) | (simp [go_sem]; done)
      have q6_5 : w6.cell? ⟨w5.heap.size, 2, none⟩ = some (.slice ak4 ps.length ck4) := by rw [hb6.cell (p := ⟨w5.heap.size, 2, none⟩) (by first | omega | (simp; done) | (simp; omega) | (dsimp only; omega))]; first | exact q5_5 | (rw [World.cell?_alloc_past _ _ _ (by omega)]; exact q5_5) | (simp [go_sem]; done)
      have B0_6 : Hid (Below w.heap.size w w6) := (below_then (Below.alloc B0_5.out (by first | omega | (simp; done) | (simp; omega) | (dsimp only; omega)) _) hb6)
      have B4_6 : Hid (Below w4.heap.size w4 w6) := (below_then (Below.alloc B4_5.out (by first | omega | (simp; done) | (simp; omega) | (dsimp only; omega)) _) hb6)
      have B5_6 : Hid (Below w5.heap.size w5 w6) := (below_then (Below.alloc (Below.refl _ _) (by first | omega | (simp; done) | (simp; omega) | (dsimp only; omega)) _) hb6)
      have HO6 := Lib.hid (Own.of ho6); clear ho6
      obtain ⟨a6, c6, rfl, -, hi6⟩ := HO6.out.ic
      clear hi6
      go_wp2_with fail
      refine (implHopefulLocks_c _ ⟨s, gs, ps⟩ _ _ ls1 _ R b HP.out ((HO5.out.mz n1 n2).later B5_6.out) (ic_of (HO6.out.later (Below.refl _ _) (Nat.le_refl _))) g1 ws1).mono ?_
      rintro e w7 ⟨vg, rfl, hog, hb7⟩
      have z7 : w6.heap.size ≤ w7.heap.size := by have := hb7.size; (try simp at this); omega
      have q7_0 : w7.cell? ⟨w.heap.size, 0, none⟩ = some (.int .i64 s) := by rw [hb7.cell (p := ⟨w.heap.size, 0, none⟩) (by first | omega | (simp; done) | (simp; omega) | (dsimp only; omega))]; first | exact q6_0 | (rw [World.cell?_alloc_past _ _ _ (by omega)]; exact q6_0) | (simp [go_sem]; done)
      have q7_1 : w7.cell? ⟨w.heap.size, 1, none⟩ = some (.slice ad gs.length cd) := by rw [hb7.cell (p := ⟨w.heap.size, 1, none⟩) (by first | omega | (simp; done) | (simp; omega) | (dsimp only; omega))]; first | exact q6_1 | (rw [World.cell?_alloc_past _ _ _ (by omega)]; exact q6_1) | (simp [go_sem]; done)
      have q7_2 : w7.cell? ⟨w.heap.size, 2, none⟩ = some (.slice ak ps.length ck) := by rw [hb7.cell (p := ⟨w.heap.size, 2, none⟩) (by first | omega | (simp; done) | (simp; omega) | (dsimp only; omega))]; first | exact q6_2 | (rw [World.cell?_alloc_past _ _ _ (by omega)]; exact q6_2) | (simp [go_sem]; done)
      have q7_3 : w7.cell? ⟨w5.heap.size, 0, none⟩ = some (.int .i64 s) := by rw [hb7.cell (p := ⟨w5.heap.size, 0, none⟩) (by first | omega | (simp; done) | (simp; omega) | (dsimp only; omega))]; first | exact q6_3 | (rw [World.cell?_alloc_past _ _ _ (by omega)]; exact q6_3) | (simp [go_sem]; done)
      have q7_4 : w7.cell? ⟨w5.heap.size, 1, none⟩ = some (.slice ad4 gs.length cd4) := by rw [hb7.cell (p := ⟨w5.heap.size, 1, none⟩) (by first | omega | (simp; done) | (simp; omega) | (dsimp only; omega))]; first | exact q6_4 | (rw [World.cell?_alloc_past _ _ _ (by omega)]; exact q6_4) | (simp [go_sem]; done)
      have q7_5 : w7.cell? ⟨w5.heap.size, 2, none⟩ = some (.slice ak4 ps.length ck4) := by rw [hb7.cell (p := ⟨w5.heap.size, 2, none⟩) (by first | omega | (simp; done) | (simp; omega) | (dsimp only; omega))]; first | exact q6_5 | (rw [World.cell?_alloc_past _ _ _ (by omega)]; exact q6_5) | (simp [go_sem]; done)
      have B0_7 : Hid (Below w.heap.size w w7) := (below_then B0_6.out hb7)
      have B4_7 : Hid (Below w4.heap.size w4 w7) := (below_then B4_6.out hb7)
      have B5_7 : Hid (Below w5.heap.size w5 w7) := (below_then B5_6.out hb7)
      have B6_7 : Hid (Below w6.heap.size w6 w7) := (below_then (Below.refl _ _) hb7)
      have HG := Lib.hid (Own.of hog); clear hog
      obtain ⟨ag, cg, rfl⟩ := HG.out.slice
      go_wp2_with fail
      refine (eqIntS_c _ _ _ _ R R _ (ic_of HG.out) (hw.later B4_7.out) (by omega) (by omega)).mono ?_
      rintro e w8 ⟨rfl, hb8⟩
      have z8 : w7.heap.size ≤ w8.heap.size := by have := hb8.size; (try simp at this); omega
      have q8_0 : w8.cell? ⟨w.heap.size, 0, none⟩ = some (.int .i64 s) := by rw [hb8.cell (p := ⟨w.heap.size, 0, none⟩) (by first | omega | (simp; done) | (simp; omega) | (dsimp only; omega))]; first | exact q7_0 | (rw [World.cell?_alloc_past _ _ _ (by omega)]; exact q7_0) | (simp [go_sem]; done)
      have q8_1 : w8.cell? ⟨w.heap.size, 1, none⟩ = some (.slice ad gs.length cd) := by rw [hb8.cell (p := ⟨w.heap.size, 1, none⟩) (by first | omega | (simp; done) | (simp; omega) | (dsimp only; omega))]; first | exact q7_1 | (rw [World.cell?_alloc_past _ _ _ (by omega)]; exact q7_1) | (simp [go_sem]; done)
      have q8_2 : w8.cell? ⟨w.heap.size, 2, none⟩ = some (.slice ak ps.length ck) := by rw [hb8.cell (p := ⟨w.heap.size, 2, none⟩) (by first | omega | (simp; done) | (simp; omega) | (dsimp only; omega))]; first | exact q7_2 | (rw [World.cell?_alloc_past _ _ _ (by omega)]; exact q7_2) | (simp [go_sem]; done)
      have q8_3 : w8.cell? ⟨w5.heap.size, 0, none⟩ = some (.int .i64 s) := by rw [hb8.cell (p := ⟨w5.heap.size, 0, none⟩) (by first | omega | (simp; done) | (simp; omega) | (dsimp only; omega))]; first | exact q7_3 | (rw [World.cell?_alloc_past _ _ _ (by omega)]; exact q7_3) | (simp [go_sem]; done)
      have q8_4 : w8.cell? ⟨w5.heap.size, 1, none⟩ = some (.slice ad4 gs.length cd4) := by rw [hb8.cell (p := ⟨w5.heap.size, 1, none⟩) (by first | omega | (simp; done) | (simp; omega) | (dsimp only; omega))]; first | exact q7_4 | (rw [World.cell?_alloc_past _ _ _ (by omega)]; exact q7_4) | (simp [go_sem]; done)
      have q8_5 : w8.cell? ⟨w5.heap.size, 2, none⟩ = some (.slice ak4 ps.length ck4) := by rw [hb8.cell (p := ⟨w5.heap.size, 2, none⟩) (by first | omega | (simp; done) | (simp; omega) | (dsimp only; omega))]; first | exact q7_5 | (rw [World.cell?_alloc_past _ _ _ (by omega)]; exact q7_5) | (simp [go_sem]; done)
      have B0_8 : Hid (Below w.heap.size w w8) := (below_then B0_7.out hb8)
      have B4_8 : Hid (Below w4.heap.size w4 w8) := (below_then B4_7.out hb8)
      have B5_8 : Hid (Below w5.heap.size w5 w8) := (below_then B5_7.out hb8)
      have B6_8 : Hid (Below w6.heap.size w6 w8) := (below_then B6_7.out hb8)
      have B7_8 : Hid (Below w7.heap.size w7 w8) := (below_then (Below.refl _ _) hb8)
      go_wp2_with fail
      go_region_held3 (fun W => W.cell? ⟨w.heap.size, 0, none⟩ = some (.int .i64 s) ∧ W.cell? ⟨w.heap.size, 1, none⟩ = some (.slice ad gs.length cd) ∧ W.cell? ⟨w.heap.size, 2, none⟩ = some (.slice ak ps.length ck) ∧ W.cell? ⟨w5.heap.size, 0, none⟩ = some (.int .i64 s) ∧ W.cell? ⟨w5.heap.size, 1, none⟩ = some (.slice ad4 gs.length cd4) ∧ W.cell? ⟨w5.heap.size, 2, none⟩ = some (.slice ak4 ps.length ck4))
        (first | exact ⟨q8_0, q8_1, q8_2, q8_3, q8_4, q8_5⟩ | exact ⟨q9_0, q9_1, q9_2, q9_3, q9_4, q9_5⟩ | exact ⟨q10_0, q10_1, q10_2, q10_3, q10_4, q10_5⟩)
        (first | (go_at_call 9; refine (toMaze_c _ _ _ (hm.later (B0_8.out).drew)).mono ?_; rintro e w9 ⟨u9, rfl, ho9, hb9⟩; have HO9 := Lib.hid ho9; clear ho9; have q9_0 : w9.cell? ⟨w.heap.size, 0, none⟩ = some (.int .i64 s) := (hb9.cell (p := ⟨w.heap.size, 0, none⟩) (show w.heap.size < w8.heap.size from by omega)).trans q8_0; have q9_1 : w9.cell? ⟨w.heap.size, 1, none⟩ = some (.slice ad gs.length cd) := (hb9.cell (p := ⟨w.heap.size, 1, none⟩) (show w.heap.size < w8.heap.size from by omega)).trans q8_1; have q9_2 : w9.cell? ⟨w.heap.size, 2, none⟩ = some (.slice ak ps.length ck) := (hb9.cell (p := ⟨w.heap.size, 2, none⟩) (show w.heap.size < w8.heap.size from by omega)).trans q8_2; have q9_3 : w9.cell? ⟨w5.heap.size, 0, none⟩ = some (.int .i64 s) := (hb9.cell (p := ⟨w5.heap.size, 0, none⟩) (show w5.heap.size < w8.heap.size from by omega)).trans q8_3; have q9_4 : w9.cell? ⟨w5.heap.size, 1, none⟩ = some (.slice ad4 gs.length cd4) := (hb9.cell (p := ⟨w5.heap.size, 1, none⟩) (show w5.heap.size < w8.heap.size from by omega)).trans q8_4; have q9_5 : w9.cell? ⟨w5.heap.size, 2, none⟩ = some (.slice ak4 ps.length ck4) := (hb9.cell (p := ⟨w5.heap.size, 2, none⟩) (show w5.heap.size < w8.heap.size from by omega)).trans q8_5) | (go_at_call 13; refine (eqMaze_c _ _ ⟨s, gs, ps⟩ ⟨s, gs, ps⟩ _ ((HO5.out.mz n1 n2).later (below_then (B5_8.out).drew hb9)) (HO9.out.mz n1 n2)).mono ?_; rintro e w10 ⟨rfl, hb10⟩; have q10_0 : w10.cell? ⟨w.heap.size, 0, none⟩ = some (.int .i64 s) := (hb10.cell (p := ⟨w.heap.size, 0, none⟩) (show w.heap.size < w9.heap.size from (by have : w8.heap.size ≤ w9.heap.size := hb9.size; omega))).trans q9_0; have q10_1 : w10.cell? ⟨w.heap.size, 1, none⟩ = some (.slice ad gs.length cd) := (hb10.cell (p := ⟨w.heap.size, 1, none⟩) (show w.heap.size < w9.heap.size from (by have : w8.heap.size ≤ w9.heap.size := hb9.size; omega))).trans q9_1; have q10_2 : w10.cell? ⟨w.heap.size, 2, none⟩ = some (.slice ak ps.length ck) := (hb10.cell (p := ⟨w.heap.size, 2, none⟩) (show w.heap.size < w9.heap.size from (by have : w8.heap.size ≤ w9.heap.size := hb9.size; omega))).trans q9_2; have q10_3 : w10.cell? ⟨w5.heap.size, 0, none⟩ = some (.int .i64 s) := (hb10.cell (p := ⟨w5.heap.size, 0, none⟩) (show w5.heap.size < w9.heap.size from (by have : w8.heap.size ≤ w9.heap.size := hb9.size; omega))).trans q9_3; have q10_4 : w10.cell? ⟨w5.heap.size, 1, none⟩ = some (.slice ad4 gs.length cd4) := (hb10.cell (p := ⟨w5.heap.size, 1, none⟩) (show w5.heap.size < w9.heap.size from (by have : w8.heap.size ≤ w9.heap.size := hb9.size; omega))).trans q9_4; have q10_5 : w10.cell? ⟨w5.heap.size, 2, none⟩ = some (.slice ak4 ps.length ck4) := (hb10.cell (p := ⟨w5.heap.size, 2, none⟩) (show w5.heap.size < w9.heap.size from (by have : w8.heap.size ≤ w9.heap.size := hb9.size; omega))).trans q9_5))
      have z9 : w8.heap.size ≤ w9.heap.size := hb9.size
      have z10 : w9.heap.size ≤ w10.heap.size := hb10.size
      have B0_10 : Hid (Below w.heap.size w w10) := (below_then (below_then (Below.drew B0_8.out) hb9) hb10)
      have B4_10 : Hid (Below w4.heap.size w4 w10) := (below_then (below_then (Below.drew B4_8.out) hb9) hb10)
      have B5_10 : Hid (Below w5.heap.size w5 w10) := (below_then (below_then (Below.drew B5_8.out) hb9) hb10)
      have B6_10 : Hid (Below w6.heap.size w6 w10) := (below_then (below_then (Below.drew B6_8.out) hb9) hb10)
      have B7_10 : Hid (Below w7.heap.size w7 w10) := (below_then (below_then (Below.drew B7_8.out) hb9) hb10)
      go_wp2_with fail
      refine (toIntS_c _ _ _ _ (hs1.later B0_10.out) g1).mono ?_
      rintro e w11 ⟨v11, rfl, ho11, hb11⟩
      have z11 : w10.heap.size ≤ w11.heap.size := by have := hb11.size; (try simp at this); omega
      have q11_0 : w11.cell? ⟨w.heap.size, 0, none⟩ = some (.int .i64 s) := by rw [hb11.cell (p := ⟨w.heap.size, 0, none⟩) (by first | omega | (simp; done) | (simp; omega) | (dsimp only; omega))]; first | exact q10_0 | (rw [World.cell?_alloc_past _ _ _ (by omega)]; exact q10_0) | (simp [go_sem]; done)
      have q11_1 : w11.cell? ⟨w.heap.size, 1, none⟩ = some (.slice ad gs.length cd) := by rw [hb11.cell (p := ⟨w.heap.size, 1, none⟩) (by first | omega | (simp; done) | (simp; omega) | (dsimp only; omega))]; first | exact q10_1 | (rw [World.cell?_alloc_past _ _ _ (by omega)]; exact q10_1) | (simp [go_sem]; done)
      have q11_2 : w11.cell? ⟨w.heap.size, 2, none⟩ = some (.slice ak ps.length ck) := by rw [hb11.cell (p := ⟨w.heap.size, 2, none⟩) (by first | omega | (simp; done) | (simp; omega) | (dsimp only; omega))]; first | exact q10_2 | (rw [World.cell?_alloc_past _ _ _ (by omega)]; exact q10_2) | (simp [go_sem]; done)
      have q11_3 : w11.cell? ⟨w5.heap.size, 0, none⟩ = some (.int .i64 s) := by rw [hb11.cell (p := ⟨w5.heap.size, 0, none⟩) (by first | omega | (simp; done) | (simp; omega) | (dsimp only; omega))]; first | exact q10_3 | (rw [World.cell?_alloc_past _ _ _ (by omega)]; exact q10_3) | (simp [go_sem]; done)
      have q11_4 : w11.cell? ⟨w5.heap.size, 1, none⟩ = some (.slice ad4 gs.length cd4) := by rw [hb11.cell (p := ⟨w5.heap.size, 1, none⟩) (by first | omega | (simp; done) | (simp; omega) | (dsimp only; omega))]; first | exact q10_4 | (rw [World.cell?_alloc_past _ _ _ (by omega)]; exact q10_4) | (simp [go_sem]; done)
      have q11_5 : w11.cell? ⟨w5.heap.size, 2, none⟩ = some (.slice ak4 ps.length ck4) := by rw [hb11.cell (p := ⟨w5.heap.size, 2, none⟩) (by first | omega | (simp; done) | (simp; omega) | (dsimp only; omega))]; first | exact q10_5 | (rw [World.cell?_alloc_past _ _ _ (by omega)]; exact q10_5) | (simp [go_sem]; done)
      have B0_11 : Hid (Below w.heap.size w w11) := (below_then B0_10.out hb11)
      have B4_11 : Hid (Below w4.heap.size w4 w11) := (below_then B4_10.out hb11)
      have B5_11 : Hid (Below w5.heap.size w5 w11) := (below_then B5_10.out hb11)
      have B6_11 : Hid (Below w6.heap.size w6 w11) := (below_then B6_10.out hb11)
      have B7_11 : Hid (Below w7.heap.size w7 w11) := (below_then B7_10.out hb11)
      have HO11 := Lib.hid (Own.of ho11); clear ho11
      obtain ⟨a11, c11, rfl, -, hi11⟩ := HO11.out.ic
      clear hi11
      go_wp2_with fail
      refine (eqIntS_c _ _ _ _ ls1 ls1 _ (ic_of (HO6.out.later B6_11.out (Nat.le_refl _))) (ic_of (HO11.out.later (Below.refl _ _) (Nat.le_refl _))) g1 g1).mono ?_
      rintro e w12 ⟨rfl, hb12⟩
      have z12 : w11.heap.size ≤ w12.heap.size := by have := hb12.size; (try simp at this); omega
      have q12_0 : w12.cell? ⟨w.heap.size, 0, none⟩ = some (.int .i64 s) := by rw [hb12.cell (p := ⟨w.heap.size, 0, none⟩) (by first | omega | (simp; done) | (simp; omega) | (dsimp only; omega))]; first | exact q11_0 | (rw [World.cell?_alloc_past _ _ _ (by omega)]; exact q11_0) | (simp [go_sem]; done)
      have q12_1 : w12.cell? ⟨w.heap.size, 1, none⟩ = some (.slice ad gs.length cd) := by rw [hb12.cell (p := ⟨w.heap.size, 1, none⟩) (by first | omega | (simp; done) | (simp; omega) | (dsimp only; omega))]; first | exact q11_1 | (rw [World.cell?_alloc_past _ _ _ (by omega)]; exact q11_1) | (simp [go_sem]; done)
      have q12_2 : w12.cell? ⟨w.heap.size, 2, none⟩ = some (.slice ak ps.length ck) := by rw [hb12.cell (p := ⟨w.heap.size, 2, none⟩) (by first | omega | (simp; done) | (simp; omega) | (dsimp only; omega))]; first | exact q11_2 | (rw [World.cell?_alloc_past _ _ _ (by omega)]; exact q11_2) | (simp [go_sem]; done)
      have q12_3 : w12.cell? ⟨w5.heap.size, 0, none⟩ = some (.int .i64 s) := by rw [hb12.cell (p := ⟨w5.heap.size, 0, none⟩) (by first | omega | (simp; done) | (simp; omega) | (dsimp only; omega))]; first | exact q11_3 | (rw [World.cell?_alloc_past _ _ _ (by omega)]; exact q11_3) | (simp [go_sem]; done)
      have q12_4 : w12.cell? ⟨w5.heap.size, 1, none⟩ = some (.slice ad4 gs.length cd4) := by rw [hb12.cell (p := ⟨w5.heap.size, 1, none⟩) (by first | omega | (simp; done) | (simp; omega) | (dsimp only; omega))]; first | exact q11_4 | (rw [World.cell?_alloc_past _ _ _ (by omega)]; exact q11_4) | (simp [go_sem]; done)
      have q12_5 : w12.cell? ⟨w5.heap.size, 2, none⟩ = some (.slice ak4 ps.length ck4) := by rw [hb12.cell (p := ⟨w5.heap.size, 2, none⟩) (by first | omega | (simp; done) | (simp; omega) | (dsimp only; omega))]; first | exact q11_5 | (rw [World.cell?_alloc_past _ _ _ (by omega)]; exact q11_5) | (simp [go_sem]; done)
      have B0_12 : Hid (Below w.heap.size w w12) := (below_then B0_11.out hb12)
      have B4_12 : Hid (Below w4.heap.size w4 w12) := (below_then B4_11.out hb12)
      have B5_12 : Hid (Below w5.heap.size w5 w12) := (below_then B5_11.out hb12)
      have B6_12 : Hid (Below w6.heap.size w6 w12) := (below_then B6_11.out hb12)
      have B7_12 : Hid (Below w7.heap.size w7 w12) := (below_then B7_11.out hb12)
      go_wp2_with fail
      refine (markMaze_c _ _ _ ⟨s, gs, ps⟩ _ _ (HO5.out.later B5_12.out (Nat.le_refl _)) (by omega) n1 n2 (by omega) (by omega)).mono ?_
      rintro e w13 ⟨rfl, hc13⟩
      have z13 : w12.heap.size ≤ w13.heap.size := by have := hc13.size; (try simp at this); omega
      have q13_0 : w13.cell? ⟨w.heap.size, 0, none⟩ = some (.int .i64 s) := (hc13.cell (p := ⟨w.heap.size, 0, none⟩) (show w.heap.size < w12.heap.size by omega) (by first | (left; show w.heap.size < _; omega) | (right; show _ ≤ w.heap.size; omega))).trans q12_0
      have q13_1 : w13.cell? ⟨w.heap.size, 1, none⟩ = some (.slice ad gs.length cd) := (hc13.cell (p := ⟨w.heap.size, 1, none⟩) (show w.heap.size < w12.heap.size by omega) (by first | (left; show w.heap.size < _; omega) | (right; show _ ≤ w.heap.size; omega))).trans q12_1
      have q13_2 : w13.cell? ⟨w.heap.size, 2, none⟩ = some (.slice ak ps.length ck) := (hc13.cell (p := ⟨w.heap.size, 2, none⟩) (show w.heap.size < w12.heap.size by omega) (by first | (left; show w.heap.size < _; omega) | (right; show _ ≤ w.heap.size; omega))).trans q12_2
      have q13_3 : w13.cell? ⟨w5.heap.size, 0, none⟩ = some (.int .i64 s) := (hc13.cell (p := ⟨w5.heap.size, 0, none⟩) (show w5.heap.size < w12.heap.size by omega) (by first | (left; show w5.heap.size < _; omega) | (right; show _ ≤ w5.heap.size; omega))).trans q12_3
      have q13_4 : w13.cell? ⟨w5.heap.size, 1, none⟩ = some (.slice ad4 gs.length cd4) := (hc13.cell (p := ⟨w5.heap.size, 1, none⟩) (show w5.heap.size < w12.heap.size by omega) (by first | (left; show w5.heap.size < _; omega) | (right; show _ ≤ w5.heap.size; omega))).trans q12_4
      have q13_5 : w13.cell? ⟨w5.heap.size, 2, none⟩ = some (.slice ak4 ps.length ck4) := (hc13.cell (p := ⟨w5.heap.size, 2, none⟩) (show w5.heap.size < w12.heap.size by omega) (by first | (left; show w5.heap.size < _; omega) | (right; show _ ≤ w5.heap.size; omega))).trans q12_5
      have HG_13 := Lib.hid (Own.mono ((HG.out.later B7_12.out (Nat.le_refl _)).chg hc13 (by first | (left; first | omega | (simp; done) | (simp; omega)) | (right; first | omega | (simp; done) | (simp; omega)))) (Nat.le_refl _) (show _ ≤ w13.heap.size by first | omega | (simp; done) | (simp; omega)))
      have HO6_13 := Lib.hid (Own.mono ((HO6.out.later B6_12.out (Nat.le_refl _)).chg hc13 (by first | (left; first | omega | (simp; done) | (simp; omega)) | (right; first | omega | (simp; done) | (simp; omega)))) (Nat.le_refl _) (show _ ≤ w13.heap.size by first | omega | (simp; done) | (simp; omega)))
      have B0_13 : Hid (Below w.heap.size w w13) := (Below.trans B0_12.out (hc13.below (by first | omega | (simp; done) | (simp; omega) | (dsimp only; omega)) (by first | omega | (simp; done) | (simp; omega) | (dsimp only; omega))))
      have B4_13 : Hid (Below w4.heap.size w4 w13) := (Below.trans B4_12.out (hc13.below (by first | omega | (simp; done) | (simp; omega) | (dsimp only; omega)) (by first | omega | (simp; done) | (simp; omega) | (dsimp only; omega))))
      have hk0 : decide (1 + (gs.length : Int) * 3 + (ps.length : Int) < 0) = false := by simp; omega
      go_wp2_with fail
      refine (markIntS_c _ _ _ 3 _ ls1 _ _ rfl HO6_13.out.row g1 (by omega) (by omega)).mono ?_
      rintro e w14 ⟨rfl, -, hgr14⟩
      have hbl14 := HO6.out.blocks
      have hc14 : Chg (w5.heap.size + 1) w6.heap.size w13 w14 := Chg.of_grown hgr14 (fun g hg => by have := hbl14 g hg; (try simp at this); omega)
      have z14 : w13.heap.size ≤ w14.heap.size := by have := hc14.size; (try simp at this); omega
      have q14_0 : w14.cell? ⟨w.heap.size, 0, none⟩ = some (.int .i64 s) := (hc14.cell (p := ⟨w.heap.size, 0, none⟩) (show w.heap.size < w13.heap.size by omega) (by first | (left; show w.heap.size < _; omega) | (right; show _ ≤ w.heap.size; omega))).trans q13_0
      have q14_1 : w14.cell? ⟨w.heap.size, 1, none⟩ = some (.slice ad gs.length cd) := (hc14.cell (p := ⟨w.heap.size, 1, none⟩) (show w.heap.size < w13.heap.size by omega) (by first | (left; show w.heap.size < _; omega) | (right; show _ ≤ w.heap.size; omega))).trans q13_1
      have q14_2 : w14.cell? ⟨w.heap.size, 2, none⟩ = some (.slice ak ps.length ck) := (hc14.cell (p := ⟨w.heap.size, 2, none⟩) (show w.heap.size < w13.heap.size by omega) (by first | (left; show w.heap.size < _; omega) | (right; show _ ≤ w.heap.size; omega))).trans q13_2
      have q14_3 : w14.cell? ⟨w5.heap.size, 0, none⟩ = some (.int .i64 s) := (hc14.cell (p := ⟨w5.heap.size, 0, none⟩) (show w5.heap.size < w13.heap.size by omega) (by first | (left; show w5.heap.size < _; omega) | (right; show _ ≤ w5.heap.size; omega))).trans q13_3
      have q14_4 : w14.cell? ⟨w5.heap.size, 1, none⟩ = some (.slice ad4 gs.length cd4) := (hc14.cell (p := ⟨w5.heap.size, 1, none⟩) (show w5.heap.size < w13.heap.size by omega) (by first | (left; show w5.heap.size < _; omega) | (right; show _ ≤ w5.heap.size; omega))).trans q13_4
      have q14_5 : w14.cell? ⟨w5.heap.size, 2, none⟩ = some (.slice ak4 ps.length ck4) := (hc14.cell (p := ⟨w5.heap.size, 2, none⟩) (show w5.heap.size < w13.heap.size by omega) (by first | (left; show w5.heap.size < _; omega) | (right; show _ ≤ w5.heap.size; omega))).trans q13_5
      have HG_14 := Lib.hid (Own.mono (HG_13.out.chg hc14 (by first | (left; first | omega | (simp; done) | (simp; omega)) | (right; first | omega | (simp; done) | (simp; omega)))) (Nat.le_refl _) (show _ ≤ w14.heap.size by first | omega | (simp; done) | (simp; omega)))
      have B0_14 : Hid (Below w.heap.size w w14) := (Below.trans B0_13.out (hc14.below (by first | omega | (simp; done) | (simp; omega) | (dsimp only; omega)) (by first | omega | (simp; done) | (simp; omega) | (dsimp only; omega))))
      have B4_14 : Hid (Below w4.heap.size w4 w14) := (Below.trans B4_13.out (hc14.below (by first | omega | (simp; done) | (simp; omega) | (dsimp only; omega)) (by first | omega | (simp; done) | (simp; omega) | (dsimp only; omega))))
      go_wp2_with fail
      refine (eqIntS_c _ _ _ _ R R _ (ic_of HG_14.out) (hw.later B4_14.out) (by omega) (by omega)).mono ?_
      rintro e w15 ⟨rfl, hb15⟩
      have z15 : w14.heap.size ≤ w15.heap.size := by have := hb15.size; (try simp at this); omega
      have q15_0 : w15.cell? ⟨w.heap.size, 0, none⟩ = some (.int .i64 s) := by rw [hb15.cell (p := ⟨w.heap.size, 0, none⟩) (by first | omega | (simp; done) | (simp; omega) | (dsimp only; omega))]; first | exact q14_0 | (rw [World.cell?_alloc_past _ _ _ (by omega)]; exact q14_0) | (simp [go_sem]; done)
      have q15_1 : w15.cell? ⟨w.heap.size, 1, none⟩ = some (.slice ad gs.length cd) := by rw [hb15.cell (p := ⟨w.heap.size, 1, none⟩) (by first | omega | (simp; done) | (simp; omega) | (dsimp only; omega))]; first | exact q14_1 | (rw [World.cell?_alloc_past _ _ _ (by omega)]; exact q14_1) | (simp [go_sem]; done)
      have q15_2 : w15.cell? ⟨w.heap.size, 2, none⟩ = some (.slice ak ps.length ck) := by rw [hb15.cell (p := ⟨w.heap.size, 2, none⟩) (by first | omega | (simp; done) | (simp; omega) | (dsimp only; omega))]; first | exact q14_2 | (rw [World.cell?_alloc_past _ _ _ (by omega)]; exact q14_2) | (simp [go_sem]; done)
      have q15_3 : w15.cell? ⟨w5.heap.size, 0, none⟩ = some (.int .i64 s) := by rw [hb15.cell (p := ⟨w5.heap.size, 0, none⟩) (by first | omega | (simp; done) | (simp; omega) | (dsimp only; omega))]; first | exact q14_3 | (rw [World.cell?_alloc_past _ _ _ (by omega)]; exact q14_3) | (simp [go_sem]; done)
      have q15_4 : w15.cell? ⟨w5.heap.size, 1, none⟩ = some (.slice ad4 gs.length cd4) := by rw [hb15.cell (p := ⟨w5.heap.size, 1, none⟩) (by first | omega | (simp; done) | (simp; omega) | (dsimp only; omega))]; first | exact q14_4 | (rw [World.cell?_alloc_past _ _ _ (by omega)]; exact q14_4) | (simp [go_sem]; done)
      have q15_5 : w15.cell? ⟨w5.heap.size, 2, none⟩ = some (.slice ak4 ps.length ck4) := by rw [hb15.cell (p := ⟨w5.heap.size, 2, none⟩) (by first | omega | (simp; done) | (simp; omega) | (dsimp only; omega))]; first | exact q14_5 | (rw [World.cell?_alloc_past _ _ _ (by omega)]; exact q14_5) | (simp [go_sem]; done)
      have B0_15 : Hid (Below w.heap.size w w15) := (below_then B0_14.out hb15)
      have B4_15 : Hid (Below w4.heap.size w4 w15) := (below_then B4_14.out hb15)
      have B14_15 : Hid (Below w14.heap.size w14 w15) := (below_then (Below.refl _ _) hb15)
      go_wp2_with fail
      refine (markIntS_c _ _ _ 3 _ R _ _ rfl (HG_14.out.later B14_15.out (Nat.le_refl _)).row (by omega) (by omega) (by omega)).mono ?_
      rintro e w16 ⟨rfl, hrg, hgr16⟩
      have hbl := (HG_14.out.later B14_15.out (Nat.le_refl _)).blocks
      have htop := (HG_14.out.later B14_15.out (Nat.le_refl _)).top
      have hc16 : Chg (w6.heap.size) w15.heap.size w15 w16 := Chg.of_grown hgr16 (fun g hg => by have := hbl g hg; (try simp at this); omega)
      have HM := Lib.hid (Own.mono (Own.mk hrg htop) (Nat.le_refl _) (show _ ≤ w16.heap.size by have := hc16.size; (try simp at this); first | omega | (simp; done) | (simp; omega))); clear hrg
      have z16 : w15.heap.size ≤ w16.heap.size := by have := hc16.size; (try simp at this); omega
      have q16_0 : w16.cell? ⟨w.heap.size, 0, none⟩ = some (.int .i64 s) := (hc16.cell (p := ⟨w.heap.size, 0, none⟩) (show w.heap.size < w15.heap.size by omega) (by first | (left; show w.heap.size < _; omega) | (right; show _ ≤ w.heap.size; omega))).trans q15_0
      have q16_1 : w16.cell? ⟨w.heap.size, 1, none⟩ = some (.slice ad gs.length cd) := (hc16.cell (p := ⟨w.heap.size, 1, none⟩) (show w.heap.size < w15.heap.size by omega) (by first | (left; show w.heap.size < _; omega) | (right; show _ ≤ w.heap.size; omega))).trans q15_1
      have q16_2 : w16.cell? ⟨w.heap.size, 2, none⟩ = some (.slice ak ps.length ck) := (hc16.cell (p := ⟨w.heap.size, 2, none⟩) (show w.heap.size < w15.heap.size by omega) (by first | (left; show w.heap.size < _; omega) | (right; show _ ≤ w.heap.size; omega))).trans q15_2
      have q16_3 : w16.cell? ⟨w5.heap.size, 0, none⟩ = some (.int .i64 s) := (hc16.cell (p := ⟨w5.heap.size, 0, none⟩) (show w5.heap.size < w15.heap.size by omega) (by first | (left; show w5.heap.size < _; omega) | (right; show _ ≤ w5.heap.size; omega))).trans q15_3
      have q16_4 : w16.cell? ⟨w5.heap.size, 1, none⟩ = some (.slice ad4 gs.length cd4) := (hc16.cell (p := ⟨w5.heap.size, 1, none⟩) (show w5.heap.size < w15.heap.size by omega) (by first | (left; show w5.heap.size < _; omega) | (right; show _ ≤ w5.heap.size; omega))).trans q15_4
      have q16_5 : w16.cell? ⟨w5.heap.size, 2, none⟩ = some (.slice ak4 ps.length ck4) := (hc16.cell (p := ⟨w5.heap.size, 2, none⟩) (show w5.heap.size < w15.heap.size by omega) (by first | (left; show w5.heap.size < _; omega) | (right; show _ ≤ w5.heap.size; omega))).trans q15_5
      have B0_16 : Hid (Below w.heap.size w w16) := (Below.trans B0_15.out (hc16.below (by first | omega | (simp; done) | (simp; omega) | (dsimp only; omega)) (by first | omega | (simp; done) | (simp; omega) | (dsimp only; omega))))
      have B4_16 : Hid (Below w4.heap.size w4 w16) := (Below.trans B4_15.out (hc16.below (by first | omega | (simp; done) | (simp; omega) | (dsimp only; omega)) (by first | omega | (simp; done) | (simp; omega) | (dsimp only; omega))))
      go_wp2_with fail
      refine (heldIntS_c _ _ R.length _ _ (ic_marks HM.out) (by omega) (by omega) (by omega)).mono ?_
      rintro e wh ⟨rfl, rfl⟩
      go_wp2_with fail
      refine (toMaze_c _ _ _ (hm.later B0_16.out)).mono ?_
      rintro e w17 ⟨u17, rfl, ho17, hb17⟩
      have z17 : w16.heap.size ≤ w17.heap.size := by have := hb17.size; (try simp at this); omega
      have q17_0 : w17.cell? ⟨w.heap.size, 0, none⟩ = some (.int .i64 s) := by rw [hb17.cell (p := ⟨w.heap.size, 0, none⟩) (by first | omega | (simp; done) | (simp; omega) | (dsimp only; omega))]; first | exact q16_0 | (rw [World.cell?_alloc_past _ _ _ (by omega)]; exact q16_0) | (simp [go_sem]; done)
      have q17_1 : w17.cell? ⟨w.heap.size, 1, none⟩ = some (.slice ad gs.length cd) := by rw [hb17.cell (p := ⟨w.heap.size, 1, none⟩) (by first | omega | (simp; done) | (simp; omega) | (dsimp only; omega))]; first | exact q16_1 | (rw [World.cell?_alloc_past _ _ _ (by omega)]; exact q16_1) | (simp [go_sem]; done)
      have q17_2 : w17.cell? ⟨w.heap.size, 2, none⟩ = some (.slice ak ps.length ck) := by rw [hb17.cell (p := ⟨w.heap.size, 2, none⟩) (by first | omega | (simp; done) | (simp; omega) | (dsimp only; omega))]; first | exact q16_2 | (rw [World.cell?_alloc_past _ _ _ (by omega)]; exact q16_2) | (simp [go_sem]; done)
      have q17_3 : w17.cell? ⟨w5.heap.size, 0, none⟩ = some (.int .i64 s) := by rw [hb17.cell (p := ⟨w5.heap.size, 0, none⟩) (by first | omega | (simp; done) | (simp; omega) | (dsimp only; omega))]; first | exact q16_3 | (rw [World.cell?_alloc_past _ _ _ (by omega)]; exact q16_3) | (simp [go_sem]; done)
      have q17_4 : w17.cell? ⟨w5.heap.size, 1, none⟩ = some (.slice ad4 gs.length cd4) := by rw [hb17.cell (p := ⟨w5.heap.size, 1, none⟩) (by first | omega | (simp; done) | (simp; omega) | (dsimp only; omega))]; first | exact q16_4 | (rw [World.cell?_alloc_past _ _ _ (by omega)]; exact q16_4) | (simp [go_sem]; done)
      have q17_5 : w17.cell? ⟨w5.heap.size, 2, none⟩ = some (.slice ak4 ps.length ck4) := by rw [hb17.cell (p := ⟨w5.heap.size, 2, none⟩) (by first | omega | (simp; done) | (simp; omega) | (dsimp only; omega))]; first | exact q16_5 | (rw [World.cell?_alloc_past _ _ _ (by omega)]; exact q16_5) | (simp [go_sem]; done)
      have B0_17 : Hid (Below w.heap.size w w17) := (below_then B0_16.out hb17)
      have B4_17 : Hid (Below w4.heap.size w4 w17) := (below_then B4_16.out hb17)
      have B16_17 : Hid (Below w16.heap.size w16 w17) := (below_then (Below.refl _ _) hb17)
      have HO17 := Lib.hid ho17; clear ho17
      go_wp2_with fail
      refine (toIntS_c _ _ _ _ (hs1.later B0_17.out) g1).mono ?_
      rintro e w18 ⟨v18, rfl, ho18, hb18⟩
      have z18 : w17.heap.size ≤ w18.heap.size := by have := hb18.size; (try simp at this); omega
      have q18_0 : w18.cell? ⟨w.heap.size, 0, none⟩ = some (.int .i64 s) := by rw [hb18.cell (p := ⟨w.heap.size, 0, none⟩) (by first | omega | (simp; done) | (simp; omega) | (dsimp only; omega))]; first | exact q17_0 | (rw [World.cell?_alloc_past _ _ _ (by omega)]; exact q17_0) | (simp [go_sem]; done)
      have q18_1 : w18.cell? ⟨w.heap.size, 1, none⟩ = some (.slice ad gs.length cd) := by rw [hb18.cell (p := ⟨w.heap.size, 1, none⟩) (by first | omega | (simp; done) | (simp; omega) | (dsimp only; omega))]; first | exact q17_1 | (rw [World.cell?_alloc_past _ _ _ (by omega)]; exact q17_1) | (simp [go_sem]; done)
      have q18_2 : w18.cell? ⟨w.heap.size, 2, none⟩ = some (.slice ak ps.length ck) := by rw [hb18.cell (p := ⟨w.heap.size, 2, none⟩) (by first | omega | (simp; done) | (simp; omega) | (dsimp only; omega))]; first | exact q17_2 | (rw [World.cell?_alloc_past _ _ _ (by omega)]; exact q17_2) | (simp [go_sem]; done)
      have q18_3 : w18.cell? ⟨w5.heap.size, 0, none⟩ = some (.int .i64 s) := by rw [hb18.cell (p := ⟨w5.heap.size, 0, none⟩) (by first | omega | (simp; done) | (simp; omega) | (dsimp only; omega))]; first | exact q17_3 | (rw [World.cell?_alloc_past _ _ _ (by omega)]; exact q17_3) | (simp [go_sem]; done)
      have q18_4 : w18.cell? ⟨w5.heap.size, 1, none⟩ = some (.slice ad4 gs.length cd4) := by rw [hb18.cell (p := ⟨w5.heap.size, 1, none⟩) (by first | omega | (simp; done) | (simp; omega) | (dsimp only; omega))]; first | exact q17_4 | (rw [World.cell?_alloc_past _ _ _ (by omega)]; exact q17_4) | (simp [go_sem]; done)
      have q18_5 : w18.cell? ⟨w5.heap.size, 2, none⟩ = some (.slice ak4 ps.length ck4) := by rw [hb18.cell (p := ⟨w5.heap.size, 2, none⟩) (by first | omega | (simp; done) | (simp; omega) | (dsimp only; omega))]; first | exact q17_5 | (rw [World.cell?_alloc_past _ _ _ (by omega)]; exact q17_5) | (simp [go_sem]; done)
      have B0_18 : Hid (Below w.heap.size w w18) := (below_then B0_17.out hb18)
      have B4_18 : Hid (Below w4.heap.size w4 w18) := (below_then B4_17.out hb18)
      have B16_18 : Hid (Below w16.heap.size w16 w18) := (below_then B16_17.out hb18)
      have B17_18 : Hid (Below w17.heap.size w17 w18) := (below_then (Below.refl _ _) hb18)
      have HO18 := Lib.hid (Own.of ho18); clear ho18
      obtain ⟨a18, c18, rfl, -, hi18⟩ := HO18.out.ic
      clear hi18
      go_wp2_with fail
      refine (implHopefulLocks_c _ ⟨s, gs, ps⟩ _ _ ls1 _ R b HP.out ((HO17.out.mz n1 n2).later B17_18.out) (ic_of (HO18.out.later (Below.refl _ _) (Nat.le_refl _))) g1 ws1).mono ?_
      rintro e w19 ⟨vh, rfl, hoh, hb19⟩
      have z19 : w18.heap.size ≤ w19.heap.size := by have := hb19.size; (try simp at this); omega
      have q19_0 : w19.cell? ⟨w.heap.size, 0, none⟩ = some (.int .i64 s) := by rw [hb19.cell (p := ⟨w.heap.size, 0, none⟩) (by first | omega | (simp; done) | (simp; omega) | (dsimp only; omega))]; first | exact q18_0 | (rw [World.cell?_alloc_past _ _ _ (by omega)]; exact q18_0) | (simp [go_sem]; done)
      have q19_1 : w19.cell? ⟨w.heap.size, 1, none⟩ = some (.slice ad gs.length cd) := by rw [hb19.cell (p := ⟨w.heap.size, 1, none⟩) (by first | omega | (simp; done) | (simp; omega) | (dsimp only; omega))]; first | exact q18_1 | (rw [World.cell?_alloc_past _ _ _ (by omega)]; exact q18_1) | (simp [go_sem]; done)
      have q19_2 : w19.cell? ⟨w.heap.size, 2, none⟩ = some (.slice ak ps.length ck) := by rw [hb19.cell (p := ⟨w.heap.size, 2, none⟩) (by first | omega | (simp; done) | (simp; omega) | (dsimp only; omega))]; first | exact q18_2 | (rw [World.cell?_alloc_past _ _ _ (by omega)]; exact q18_2) | (simp [go_sem]; done)
      have q19_3 : w19.cell? ⟨w5.heap.size, 0, none⟩ = some (.int .i64 s) := by rw [hb19.cell (p := ⟨w5.heap.size, 0, none⟩) (by first | omega | (simp; done) | (simp; omega) | (dsimp only; omega))]; first | exact q18_3 | (rw [World.cell?_alloc_past _ _ _ (by omega)]; exact q18_3) | (simp [go_sem]; done)
      have q19_4 : w19.cell? ⟨w5.heap.size, 1, none⟩ = some (.slice ad4 gs.length cd4) := by rw [hb19.cell (p := ⟨w5.heap.size, 1, none⟩) (by first | omega | (simp; done) | (simp; omega) | (dsimp only; omega))]; first | exact q18_4 | (rw [World.cell?_alloc_past _ _ _ (by omega)]; exact q18_4) | (simp [go_sem]; done)
      have q19_5 : w19.cell? ⟨w5.heap.size, 2, none⟩ = some (.slice ak4 ps.length ck4) := by rw [hb19.cell (p := ⟨w5.heap.size, 2, none⟩) (by first | omega | (simp; done) | (simp; omega) | (dsimp only; omega))]; first | exact q18_5 | (rw [World.cell?_alloc_past _ _ _ (by omega)]; exact q18_5) | (simp [go_sem]; done)
      have B0_19 : Hid (Below w.heap.size w w19) := (below_then B0_18.out hb19)
      have B4_19 : Hid (Below w4.heap.size w4 w19) := (below_then B4_18.out hb19)
      have B16_19 : Hid (Below w16.heap.size w16 w19) := (below_then B16_18.out hb19)
      have B17_19 : Hid (Below w17.heap.size w17 w19) := (below_then B17_18.out hb19)
      have B18_19 : Hid (Below w18.heap.size w18 w19) := (below_then (Below.refl _ _) hb19)
      have HH := Lib.hid (Own.of hoh); clear hoh
      obtain ⟨ah, ch, rfl⟩ := HH.out.slice
      go_wp2_with fail
      refine (eqIntS_c _ _ _ _ R R _ (ic_of HH.out) (hw.later B4_19.out) (by omega) (by omega)).mono ?_
      rintro e w20 ⟨rfl, hb20⟩
      have z20 : w19.heap.size ≤ w20.heap.size := by have := hb20.size; (try simp at this); omega
      have B0_20 : Hid (Below w.heap.size w w20) := (below_then B0_19.out hb20)
      have B4_20 : Hid (Below w4.heap.size w4 w20) := (below_then B4_19.out hb20)
      have B16_20 : Hid (Below w16.heap.size w16 w20) := (below_then B16_19.out hb20)
      go_wp2_with fail
      refine (heldIntS_c _ _ R.length _ _ ((ic_marks HM.out).later B16_20.out) (by omega) (by omega) (by omega)).mono ?_
      rintro e wh ⟨rfl, rfl⟩
      go_wp2_with fail
      go_ret
      exact ⟨rfl, B0_20.out⟩
end Go.Proofs.Ytbaahghfjmkeoaa
