/- The law FnExactLayKeys, walked. -/
import Derived.Test.YtbaahghfjmkeoaaKdChg
import Derived.Test.YtbaahghfjmkeoaaKdOpen
import Derived.Test.YtbaahghfjmkeoaaKdStruct
import Derived.Test.YtbaahghfjmkeoaaKdLay3
import Derived.Deep.RegionHeld3
set_option linter.unusedVariables false
set_option linter.unusedSimpArgs false
namespace Go.Proofs.Ytbaahghfjmkeoaa
open Go.RowKit Go.KD
attribute [local go_sem] later_cell later_frozen
set_option maxHeartbeats 16000000 in
theorem lawLayKeys_c (ad ak : Option Addr) (cd ck : Nat) (m : Mz) (i1 : Int) (as2 : Option Addr) (cs2 : Nat) (ls2 : List Int) (w : World) (hd : D3C w ad m.doors) (hk : IC w ak m.keys) (nd : m.doors.length ≤ maxLen) (nk : m.keys.length ≤ maxLen) (wi1 : wfI i1) (hs2 : IC w as2 ls2) (ns2 : ls2.length ≤ maxLen) (ws2 : ∀ x ∈ ls2, wfI x) :
    Calls Try.prog 4 #[.agg #[.int .i64 m.size, .slice ad m.doors.length cd, .slice ak m.keys.length ck], .int .i64 i1, .slice as2 ls2.length cs2] w fun e w' => e = .returned (.bool true) ∧ Below w.heap.size w w' := by
  obtain ⟨s, gs, ps⟩ := m
  dsimp only at *
  by_cases g2 : ls2.length ≤ 1048576
  case neg =>
    have gb2 : decide ((1048576 : Int) < (ls2.length : Int)) = true := by simp; omega
    go_enter Try.func4, Try.ntmps4
    go_wp2_with fail
    go_ret
    exact ⟨rfl, by (repeat (first | exact Below.refl _ _ | apply Below.drew | apply below_drewN | (refine Below.setCell ?_ (by first | omega | (simp; done) | (simp; omega) | (dsimp only; omega)) _) | (refine Below.alloc ?_ (by first | omega | (simp; done) | (simp; omega) | (dsimp only; omega)) _)))⟩
  case pos =>
    have gb2 : decide ((1048576 : Int) < (ls2.length : Int)) = false := by simp; omega
    by_cases h0 : szMzP 1048576 gs.length ps.length < 0
    case pos =>
      have hd0 : decide (szMzP 1048576 gs.length ps.length < 0) = true := decide_eq_true h0
      clear h0
      go_enter Try.func4, Try.ntmps4
      go_wp2_with (go_at_call 7; refine (szMaze_c _ _ _ _ _ _ _ _ _ (by omega) (by omega) nd nk).mono ?_; rintro e w1 ⟨rfl, hb1⟩)
      go_ret
      exact ⟨rfl, below_then (by (repeat (first | exact Below.refl _ _ | apply Below.drew | apply below_drewN | (refine Below.setCell ?_ (by first | omega | (simp; done) | (simp; omega) | (dsimp only; omega)) _) | (refine Below.alloc ?_ (by first | omega | (simp; done) | (simp; omega) | (dsimp only; omega)) _)))) hb1⟩
    case neg =>
      have hd0 : decide (szMzP 1048576 gs.length ps.length < 0) = false := decide_eq_false h0
      obtain ⟨n1, n2⟩ := szMzP_le h0
      clear h0
      have hm : MzAt w (.agg #[.int .i64 s, .slice ad gs.length cd, .slice ak ps.length ck]) ⟨s, gs, ps⟩ := ⟨⟨ad, cd, ak, ck, rfl, hd, hk⟩, n1, n2⟩
      obtain ⟨R, b, hp⟩ : ∃ R b, pLayKeys ⟨s, gs, ps⟩ i1 ls2 = (R, b) := ⟨_, _, rfl⟩
      obtain ⟨hR1, hR2⟩ : R.doors.length ≤ 100000 ∧ R.keys.length ≤ 100000 := by have := pLayKeys_len ⟨s, gs, ps⟩ i1 ls2; rw [hp] at this; exact this
      have hk1 : decide (1 + (R.doors.length : Int) * 3 + (R.keys.length : Int) < 0) = false := by simp; omega
      have HP := Lib.hid hp; clear hp
      go_enter Try.func4, Try.ntmps4
      go_wp2_with fail
      refine (szMaze_c _ _ _ _ _ _ _ _ _ (by omega) (by omega) nd nk).mono ?_
      rintro e w1 ⟨rfl, hb1⟩
      have z1 : w.heap.size + 1 ≤ w1.heap.size := by have := hb1.size; (try simp at this); omega
      have q1_0 : w1.cell? ⟨w.heap.size, 0, none⟩ = some (.int .i64 s) := by rw [hb1.cell (p := ⟨w.heap.size, 0, none⟩) (by simp)]; simp [go_sem]
      have q1_1 : w1.cell? ⟨w.heap.size, 1, none⟩ = some (.slice ad gs.length cd) := by rw [hb1.cell (p := ⟨w.heap.size, 1, none⟩) (by simp)]; simp [go_sem]
      have q1_2 : w1.cell? ⟨w.heap.size, 2, none⟩ = some (.slice ak ps.length ck) := by rw [hb1.cell (p := ⟨w.heap.size, 2, none⟩) (by simp)]; simp [go_sem]
      have B0_1 : Hid (Below w.heap.size w w1) := below_then (by (repeat (first | exact Below.refl _ _ | apply Below.drew | apply below_drewN | (refine Below.setCell ?_ (by first | omega | (simp; done) | (simp; omega) | (dsimp only; omega)) _) | (refine Below.alloc ?_ (by first | omega | (simp; done) | (simp; omega) | (dsimp only; omega)) _)))) hb1
      go_wp2_with fail
      refine (toMaze_c _ _ _ (hm.later B0_1.out)).mono ?_
      rintro e w2 ⟨u2, rfl, ho2, hb2⟩
      have z2 : w1.heap.size ≤ w2.heap.size := by have := hb2.size; (try simp at this); omega
      have q2_0 : w2.cell? ⟨w.heap.size, 0, none⟩ = some (.int .i64 s) := by rw [hb2.cell (p := ⟨w.heap.size, 0, none⟩) (by first | omega | (simp; done) | (simp; omega) | (dsimp only; omega))]; first | exact q1_0 | (rw [World.cell?_alloc_past _ _ _ (by omega)]; exact q1_0) | (simp [go_sem]; done)
      have q2_1 : w2.cell? ⟨w.heap.size, 1, none⟩ = some (.slice ad gs.length cd) := by rw [hb2.cell (p := ⟨w.heap.size, 1, none⟩) (by first | omega | (simp; done) | (simp; omega) | (dsimp only; omega))]; first | exact q1_1 | (rw [World.cell?_alloc_past _ _ _ (by omega)]; exact q1_1) | (simp [go_sem]; done)
      have q2_2 : w2.cell? ⟨w.heap.size, 2, none⟩ = some (.slice ak ps.length ck) := by rw [hb2.cell (p := ⟨w.heap.size, 2, none⟩) (by first | omega | (simp; done) | (simp; omega) | (dsimp only; omega))]; first | exact q1_2 | (rw [World.cell?_alloc_past _ _ _ (by omega)]; exact q1_2) | (simp [go_sem]; done)
      have B0_2 : Hid (Below w.heap.size w w2) := (below_then B0_1.out hb2)
      have HO2 := Lib.hid ho2; clear ho2
      go_wp2_with fail
      refine (toIntS_c _ _ _ _ (hs2.later B0_2.out) g2).mono ?_
      rintro e w3 ⟨v3, rfl, ho3, hb3⟩
      have z3 : w2.heap.size ≤ w3.heap.size := by have := hb3.size; (try simp at this); omega
      have q3_0 : w3.cell? ⟨w.heap.size, 0, none⟩ = some (.int .i64 s) := by rw [hb3.cell (p := ⟨w.heap.size, 0, none⟩) (by first | omega | (simp; done) | (simp; omega) | (dsimp only; omega))]; first | exact q2_0 | (rw [World.cell?_alloc_past _ _ _ (by omega)]; exact q2_0) | (simp [go_sem]; done)
      have q3_1 : w3.cell? ⟨w.heap.size, 1, none⟩ = some (.slice ad gs.length cd) := by rw [hb3.cell (p := ⟨w.heap.size, 1, none⟩) (by first | omega | (simp; done) | (simp; omega) | (dsimp only; omega))]; first | exact q2_1 | (rw [World.cell?_alloc_past _ _ _ (by omega)]; exact q2_1) | (simp [go_sem]; done)
      have q3_2 : w3.cell? ⟨w.heap.size, 2, none⟩ = some (.slice ak ps.length ck) := by rw [hb3.cell (p := ⟨w.heap.size, 2, none⟩) (by first | omega | (simp; done) | (simp; omega) | (dsimp only; omega))]; first | exact q2_2 | (rw [World.cell?_alloc_past _ _ _ (by omega)]; exact q2_2) | (simp [go_sem]; done)
      have B0_3 : Hid (Below w.heap.size w w3) := (below_then B0_2.out hb3)
      have B2_3 : Hid (Below w2.heap.size w2 w3) := (below_then (Below.refl _ _) hb3)
      have HO3 := Lib.hid (Own.of ho3); clear ho3
      obtain ⟨a3, c3, rfl, -, hi3⟩ := HO3.out.ic
      clear hi3
      go_wp2_with fail
      refine (specLayKeys_c _ ⟨s, gs, ps⟩ _ _ _ ls2 _ R b HP.out ((HO2.out.mz n1 n2).later B2_3.out) wi1 (ic_of (HO3.out.later (Below.refl _ _) (by first | exact Nat.le_refl _ | omega | (simp; done) | (simp; omega)))) g2 ws2).mono ?_
      rintro e w4 ⟨uw, rfl, hw, hb4⟩
      have z4 : w3.heap.size ≤ w4.heap.size := by have := hb4.size; (try simp at this); omega
      have q4_0 : w4.cell? ⟨w.heap.size, 0, none⟩ = some (.int .i64 s) := by rw [hb4.cell (p := ⟨w.heap.size, 0, none⟩) (by first | omega | (simp; done) | (simp; omega) | (dsimp only; omega))]; first | exact q3_0 | (rw [World.cell?_alloc_past _ _ _ (by omega)]; exact q3_0) | (simp [go_sem]; done)
      have q4_1 : w4.cell? ⟨w.heap.size, 1, none⟩ = some (.slice ad gs.length cd) := by rw [hb4.cell (p := ⟨w.heap.size, 1, none⟩) (by first | omega | (simp; done) | (simp; omega) | (dsimp only; omega))]; first | exact q3_1 | (rw [World.cell?_alloc_past _ _ _ (by omega)]; exact q3_1) | (simp [go_sem]; done)
      have q4_2 : w4.cell? ⟨w.heap.size, 2, none⟩ = some (.slice ak ps.length ck) := by rw [hb4.cell (p := ⟨w.heap.size, 2, none⟩) (by first | omega | (simp; done) | (simp; omega) | (dsimp only; omega))]; first | exact q3_2 | (rw [World.cell?_alloc_past _ _ _ (by omega)]; exact q3_2) | (simp [go_sem]; done)
      have B0_4 : Hid (Below w.heap.size w w4) := (below_then B0_3.out hb4)
      have B2_4 : Hid (Below w2.heap.size w2 w4) := (below_then B2_3.out hb4)
      have B3_4 : Hid (Below w3.heap.size w3 w4) := (below_then (Below.refl _ _) hb4)
      obtain ⟨⟨adw, cdw, akw, ckw, rfl, hdw, hkw⟩, nw1, nw2⟩ := hw
      have HW : Hid (MzAt w4 (.agg #[.int .i64 R.size, .slice adw R.doors.length cdw, .slice akw R.keys.length ckw]) R) := ⟨⟨adw, cdw, akw, ckw, rfl, hdw, hkw⟩, nw1, nw2⟩
      clear hdw hkw nw1 nw2
      have a4_0 := (World.cell?_alloc_lt w4 (.cells #[.int .i64 R.size, .slice adw R.doors.length cdw, .slice akw R.keys.length ckw] 29) ⟨w.heap.size, 0, none⟩ (show w.heap.size < w4.heap.size by omega)).trans q4_0
      have a4_1 := (World.cell?_alloc_lt w4 (.cells #[.int .i64 R.size, .slice adw R.doors.length cdw, .slice akw R.keys.length ckw] 29) ⟨w.heap.size, 1, none⟩ (show w.heap.size < w4.heap.size by omega)).trans q4_1
      have a4_2 := (World.cell?_alloc_lt w4 (.cells #[.int .i64 R.size, .slice adw R.doors.length cdw, .slice akw R.keys.length ckw] 29) ⟨w.heap.size, 2, none⟩ (show w.heap.size < w4.heap.size by omega)).trans q4_2
      go_wp2_with fail
      have q4_3 : True := trivial
      have q4_4 : True := trivial
      have q4_5 : True := trivial
      refine (toMaze_c _ _ _ (hm.later (Below.alloc B0_4.out (by first | omega | (simp; done) | (simp; omega) | (dsimp only; omega)) _))).mono ?_
      rintro e w5 ⟨u5, rfl, ho5, hb5⟩
      have z5 : w4.heap.size + 1 ≤ w5.heap.size := by have := hb5.size; (try simp at this); omega
      have q5_0 : w5.cell? ⟨w.heap.size, 0, none⟩ = some (.int .i64 s) := by rw [hb5.cell (p := ⟨w.heap.size, 0, none⟩) (by first | omega | (simp; done) | (simp; omega) | (dsimp only; omega))]; first | exact q4_0 | (rw [World.cell?_alloc_past _ _ _ (by omega)]; exact q4_0) | (simp [go_sem]; done)
      have q5_1 : w5.cell? ⟨w.heap.size, 1, none⟩ = some (.slice ad gs.length cd) := by rw [hb5.cell (p := ⟨w.heap.size, 1, none⟩) (by first | omega | (simp; done) | (simp; omega) | (dsimp only; omega))]; first | exact q4_1 | (rw [World.cell?_alloc_past _ _ _ (by omega)]; exact q4_1) | (simp [go_sem]; done)
      have q5_2 : w5.cell? ⟨w.heap.size, 2, none⟩ = some (.slice ak ps.length ck) := by rw [hb5.cell (p := ⟨w.heap.size, 2, none⟩) (by first | omega | (simp; done) | (simp; omega) | (dsimp only; omega))]; first | exact q4_2 | (rw [World.cell?_alloc_past _ _ _ (by omega)]; exact q4_2) | (simp [go_sem]; done)
      have q5_3 : w5.cell? ⟨w4.heap.size, 0, none⟩ = some (.int .i64 R.size) := by rw [hb5.cell (p := ⟨w4.heap.size, 0, none⟩) (by first | omega | (simp; done) | (simp; omega) | (dsimp only; omega))]; first | exact q4_3 | (rw [World.cell?_alloc_past _ _ _ (by omega)]; exact q4_3) | (simp [go_sem]; done)
      have q5_4 : w5.cell? ⟨w4.heap.size, 1, none⟩ = some (.slice adw R.doors.length cdw) := by rw [hb5.cell (p := ⟨w4.heap.size, 1, none⟩) (by first | omega | (simp; done) | (simp; omega) | (dsimp only; omega))]; first | exact q4_4 | (rw [World.cell?_alloc_past _ _ _ (by omega)]; exact q4_4) | (simp [go_sem]; done)
      have q5_5 : w5.cell? ⟨w4.heap.size, 2, none⟩ = some (.slice akw R.keys.length ckw) := by rw [hb5.cell (p := ⟨w4.heap.size, 2, none⟩) (by first | omega | (simp; done) | (simp; omega) | (dsimp only; omega))]; first | exact q4_5 | (rw [World.cell?_alloc_past _ _ _ (by omega)]; exact q4_5) | (simp [go_sem]; done)
      have B0_5 : Hid (Below w.heap.size w w5) := (below_then (Below.alloc B0_4.out (by first | omega | (simp; done) | (simp; omega) | (dsimp only; omega)) _) hb5)
      have B4_5 : Hid (Below w4.heap.size w4 w5) := (below_then (Below.alloc (Below.refl _ _) (by first | omega | (simp; done) | (simp; omega) | (dsimp only; omega)) _) hb5)
      have HO5 := Lib.hid ho5; clear ho5
      obtain ⟨e43, e41, vd4, vk4, hu4, o43, o41, hap4⟩ := HO5.out
      obtain ⟨ad4, cd4, rfl⟩ := o43.slice
      obtain ⟨ak4, ck4, rfl⟩ := o41.slice
      subst hu4
      clear o43 o41 hap4
      have a5_0 := (World.cell?_alloc_lt w5 (.cells #[.int .i64 s, .slice ad4 gs.length cd4, .slice ak4 ps.length ck4] 29) ⟨w.heap.size, 0, none⟩ (show w.heap.size < w5.heap.size by omega)).trans q5_0
      have a5_1 := (World.cell?_alloc_lt w5 (.cells #[.int .i64 s, .slice ad4 gs.length cd4, .slice ak4 ps.length ck4] 29) ⟨w.heap.size, 1, none⟩ (show w.heap.size < w5.heap.size by omega)).trans q5_1
      have a5_2 := (World.cell?_alloc_lt w5 (.cells #[.int .i64 s, .slice ad4 gs.length cd4, .slice ak4 ps.length ck4] 29) ⟨w.heap.size, 2, none⟩ (show w.heap.size < w5.heap.size by omega)).trans q5_2
      have a5_3 := (World.cell?_alloc_lt w5 (.cells #[.int .i64 s, .slice ad4 gs.length cd4, .slice ak4 ps.length ck4] 29) ⟨w4.heap.size, 0, none⟩ (show w4.heap.size < w5.heap.size by omega)).trans q5_3
      have a5_4 := (World.cell?_alloc_lt w5 (.cells #[.int .i64 s, .slice ad4 gs.length cd4, .slice ak4 ps.length ck4] 29) ⟨w4.heap.size, 1, none⟩ (show w4.heap.size < w5.heap.size by omega)).trans q5_4
      have a5_5 := (World.cell?_alloc_lt w5 (.cells #[.int .i64 s, .slice ad4 gs.length cd4, .slice ak4 ps.length ck4] 29) ⟨w4.heap.size, 2, none⟩ (show w4.heap.size < w5.heap.size by omega)).trans q5_5
      go_wp2_with fail
      have q5_6 : True := trivial
      have q5_7 : True := trivial
      have q5_8 : True := trivial
      refine (toIntS_c _ _ _ _ (hs2.later (Below.alloc B0_5.out (by first | omega | (simp; done) | (simp; omega) | (dsimp only; omega)) _)) g2).mono ?_
      rintro e w6 ⟨v6, rfl, ho6, hb6⟩
      have z6 : w5.heap.size + 1 ≤ w6.heap.size := by have := hb6.size; (try simp at this); omega
      have q6_0 : w6.cell? ⟨w.heap.size, 0, none⟩ = some (.int .i64 s) := by rw [hb6.cell (p := ⟨w.heap.size, 0, none⟩) (by first | omega | (simp; done) | (simp; omega) | (dsimp only; omega))]; first | exact q5_0 | (rw [World.cell?_alloc_past _ _ _ (by omega)]; exact q5_0) | (simp [go_sem]; done)
      have q6_1 : w6.cell? ⟨w.heap.size, 1, none⟩ = some (.slice ad gs.length cd) := by rw [hb6.cell (p := ⟨w.heap.size, 1, none⟩) (by first | omega | (simp; done) | (simp; omega) | (dsimp only; omega))]; first | exact q5_1 | (rw [World.cell?_alloc_past _ _ _ (by omega)]; exact q5_1) | (simp [go_sem]; done)
      have q6_2 : w6.cell? ⟨w.heap.size, 2, none⟩ = some (.slice ak ps.length ck) := by rw [hb6.cell (p := ⟨w.heap.size, 2, none⟩) (by first | omega | (simp; done) | (simp; omega) | (dsimp only; omega))]; first | exact q5_2 | (rw [World.cell?_alloc_past _ _ _ (by omega)]; exact q5_2) | (simp [go_sem]; done)
      have q6_3 : w6.cell? ⟨w4.heap.size, 0, none⟩ = some (.int .i64 R.size) := by rw [hb6.cell (p := ⟨w4.heap.size, 0, none⟩) (by first | omega | (simp; done) | (simp; omega) | (dsimp only; omega))]; first | exact q5_3 | (rw [World.cell?_alloc_past _ _ _ (by omega)]; exact q5_3) | (simp [go_sem]; done)
      have q6_4 : w6.cell? ⟨w4.heap.size, 1, none⟩ = some (.slice adw R.doors.length cdw) := by rw [hb6.cell (p := ⟨w4.heap.size, 1, none⟩) (by first | omega | (simp; done) | (simp; omega) | (dsimp only; omega))]; first | exact q5_4 | (rw [World.cell?_alloc_past _ _ _ (by omega)]; exact q5_4) | (simp [go_sem]; done)
      have q6_5 : w6.cell? ⟨w4.heap.size, 2, none⟩ = some (.slice akw R.keys.length ckw) := by rw [hb6.cell (p := ⟨w4.heap.size, 2, none⟩) (by first | omega | (simp; done) | (simp; omega) | (dsimp only; omega))]; first | exact q5_5 | (rw [World.cell?_alloc_past _ _ _ (by omega)]; exact q5_5) | (simp [go_sem]; done)
      have q6_6 : w6.cell? ⟨w5.heap.size, 0, none⟩ = some (.int .i64 s) := by rw [hb6.cell (p := ⟨w5.heap.size, 0, none⟩) (by first | omega | (simp; done) | (simp; omega) | (dsimp only; omega))]; first | exact q5_6 | (rw [World.cell?_alloc_past _ _ _ (by omega)]; exact q5_6) | (simp [go_sem]; done)
      have q6_7 : w6.cell? ⟨w5.heap.size, 1, none⟩ = some (.slice ad4 gs.length cd4) := by rw [hb6.cell (p := ⟨w5.heap.size, 1, none⟩) (by first | omega | (simp; done) | (simp; omega) | (dsimp only; omega))]; first | exact q5_7 | (rw [World.cell?_alloc_past _ _ _ (by omega)]; exact q5_7) | (simp [go_sem]; done)
      have q6_8 : w6.cell? ⟨w5.heap.size, 2, none⟩ = some (.slice ak4 ps.length ck4) := by rw [hb6.cell (p := ⟨w5.heap.size, 2, none⟩) (by first | omega | (simp; done) | (simp; omega) | (dsimp only; omega))]; first | exact q5_8 | (rw [World.cell?_alloc_past _ _ _ (by omega)]; exact q5_8) | (simp [go_sem]; done)
      have B0_6 : Hid (Below w.heap.size w w6) := (below_then (Below.alloc B0_5.out (by first | omega | (simp; done) | (simp; omega) | (dsimp only; omega)) _) hb6)
      have B4_6 : Hid (Below w4.heap.size w4 w6) := (below_then (Below.alloc B4_5.out (by first | omega | (simp; done) | (simp; omega) | (dsimp only; omega)) _) hb6)
      have B5_6 : Hid (Below w5.heap.size w5 w6) := (below_then (Below.alloc (Below.refl _ _) (by first | omega | (simp; done) | (simp; omega) | (dsimp only; omega)) _) hb6)
      have HO6 := Lib.hid (Own.of ho6); clear ho6
      obtain ⟨a6, c6, rfl, -, hi6⟩ := HO6.out.ic
      clear hi6
      go_wp2_with fail
      refine (implLayKeys_c _ ⟨s, gs, ps⟩ _ _ _ ls2 _ R b HP.out ((HO5.out.mz n1 n2).later B5_6.out) wi1 (ic_of (HO6.out.later (Below.refl _ _) (by first | exact Nat.le_refl _ | omega | (simp; done) | (simp; omega)))) g2 ws2).mono ?_
      rintro e w7 ⟨vg, rfl, hog, hb7⟩
      have z7 : w6.heap.size ≤ w7.heap.size := by have := hb7.size; (try simp at this); omega
      have q7_0 : w7.cell? ⟨w.heap.size, 0, none⟩ = some (.int .i64 s) := by rw [hb7.cell (p := ⟨w.heap.size, 0, none⟩) (by first | omega | (simp; done) | (simp; omega) | (dsimp only; omega))]; first | exact q6_0 | (rw [World.cell?_alloc_past _ _ _ (by omega)]; exact q6_0) | (simp [go_sem]; done)
      have q7_1 : w7.cell? ⟨w.heap.size, 1, none⟩ = some (.slice ad gs.length cd) := by rw [hb7.cell (p := ⟨w.heap.size, 1, none⟩) (by first | omega | (simp; done) | (simp; omega) | (dsimp only; omega))]; first | exact q6_1 | (rw [World.cell?_alloc_past _ _ _ (by omega)]; exact q6_1) | (simp [go_sem]; done)
      have q7_2 : w7.cell? ⟨w.heap.size, 2, none⟩ = some (.slice ak ps.length ck) := by rw [hb7.cell (p := ⟨w.heap.size, 2, none⟩) (by first | omega | (simp; done) | (simp; omega) | (dsimp only; omega))]; first | exact q6_2 | (rw [World.cell?_alloc_past _ _ _ (by omega)]; exact q6_2) | (simp [go_sem]; done)
      have q7_3 : w7.cell? ⟨w4.heap.size, 0, none⟩ = some (.int .i64 R.size) := by rw [hb7.cell (p := ⟨w4.heap.size, 0, none⟩) (by first | omega | (simp; done) | (simp; omega) | (dsimp only; omega))]; first | exact q6_3 | (rw [World.cell?_alloc_past _ _ _ (by omega)]; exact q6_3) | (simp [go_sem]; done)
      have q7_4 : w7.cell? ⟨w4.heap.size, 1, none⟩ = some (.slice adw R.doors.length cdw) := by rw [hb7.cell (p := ⟨w4.heap.size, 1, none⟩) (by first | omega | (simp; done) | (simp; omega) | (dsimp only; omega))]; first | exact q6_4 | (rw [World.cell?_alloc_past _ _ _ (by omega)]; exact q6_4) | (simp [go_sem]; done)
      have q7_5 : w7.cell? ⟨w4.heap.size, 2, none⟩ = some (.slice akw R.keys.length ckw) := by rw [hb7.cell (p := ⟨w4.heap.size, 2, none⟩) (by first | omega | (simp; done) | (simp; omega) | (dsimp only; omega))]; first | exact q6_5 | (rw [World.cell?_alloc_past _ _ _ (by omega)]; exact q6_5) | (simp [go_sem]; done)
      have q7_6 : w7.cell? ⟨w5.heap.size, 0, none⟩ = some (.int .i64 s) := by rw [hb7.cell (p := ⟨w5.heap.size, 0, none⟩) (by first | omega | (simp; done) | (simp; omega) | (dsimp only; omega))]; first | exact q6_6 | (rw [World.cell?_alloc_past _ _ _ (by omega)]; exact q6_6) | (simp [go_sem]; done)
      have q7_7 : w7.cell? ⟨w5.heap.size, 1, none⟩ = some (.slice ad4 gs.length cd4) := by rw [hb7.cell (p := ⟨w5.heap.size, 1, none⟩) (by first | omega | (simp; done) | (simp; omega) | (dsimp only; omega))]; first | exact q6_7 | (rw [World.cell?_alloc_past _ _ _ (by omega)]; exact q6_7) | (simp [go_sem]; done)
      have q7_8 : w7.cell? ⟨w5.heap.size, 2, none⟩ = some (.slice ak4 ps.length ck4) := by rw [hb7.cell (p := ⟨w5.heap.size, 2, none⟩) (by first | omega | (simp; done) | (simp; omega) | (dsimp only; omega))]; first | exact q6_8 | (rw [World.cell?_alloc_past _ _ _ (by omega)]; exact q6_8) | (simp [go_sem]; done)
      have B0_7 : Hid (Below w.heap.size w w7) := (below_then B0_6.out hb7)
      have B4_7 : Hid (Below w4.heap.size w4 w7) := (below_then B4_6.out hb7)
      have B5_7 : Hid (Below w5.heap.size w5 w7) := (below_then B5_6.out hb7)
      have B6_7 : Hid (Below w6.heap.size w6 w7) := (below_then (Below.refl _ _) hb7)
      have HG := Lib.hid hog; clear hog
      obtain ⟨eg3, eg1, vdg, vkg, hug, og3, og1, hapg⟩ := HG.out
      obtain ⟨adg, cdg, rfl⟩ := og3.slice
      obtain ⟨akg, ckg, rfl⟩ := og1.slice
      subst hug
      clear og3 og1 hapg
      have a7_0 := (World.cell?_alloc_lt w7 (.cells #[.int .i64 R.size, .slice adg R.doors.length cdg, .slice akg R.keys.length ckg] 29) ⟨w.heap.size, 0, none⟩ (show w.heap.size < w7.heap.size by omega)).trans q7_0
      have a7_1 := (World.cell?_alloc_lt w7 (.cells #[.int .i64 R.size, .slice adg R.doors.length cdg, .slice akg R.keys.length ckg] 29) ⟨w.heap.size, 1, none⟩ (show w.heap.size < w7.heap.size by omega)).trans q7_1
      have a7_2 := (World.cell?_alloc_lt w7 (.cells #[.int .i64 R.size, .slice adg R.doors.length cdg, .slice akg R.keys.length ckg] 29) ⟨w.heap.size, 2, none⟩ (show w.heap.size < w7.heap.size by omega)).trans q7_2
      have a7_3 := (World.cell?_alloc_lt w7 (.cells #[.int .i64 R.size, .slice adg R.doors.length cdg, .slice akg R.keys.length ckg] 29) ⟨w4.heap.size, 0, none⟩ (show w4.heap.size < w7.heap.size by omega)).trans q7_3
      have a7_4 := (World.cell?_alloc_lt w7 (.cells #[.int .i64 R.size, .slice adg R.doors.length cdg, .slice akg R.keys.length ckg] 29) ⟨w4.heap.size, 1, none⟩ (show w4.heap.size < w7.heap.size by omega)).trans q7_4
      have a7_5 := (World.cell?_alloc_lt w7 (.cells #[.int .i64 R.size, .slice adg R.doors.length cdg, .slice akg R.keys.length ckg] 29) ⟨w4.heap.size, 2, none⟩ (show w4.heap.size < w7.heap.size by omega)).trans q7_5
      have a7_6 := (World.cell?_alloc_lt w7 (.cells #[.int .i64 R.size, .slice adg R.doors.length cdg, .slice akg R.keys.length ckg] 29) ⟨w5.heap.size, 0, none⟩ (show w5.heap.size < w7.heap.size by omega)).trans q7_6
      have a7_7 := (World.cell?_alloc_lt w7 (.cells #[.int .i64 R.size, .slice adg R.doors.length cdg, .slice akg R.keys.length ckg] 29) ⟨w5.heap.size, 1, none⟩ (show w5.heap.size < w7.heap.size by omega)).trans q7_7
      have a7_8 := (World.cell?_alloc_lt w7 (.cells #[.int .i64 R.size, .slice adg R.doors.length cdg, .slice akg R.keys.length ckg] 29) ⟨w5.heap.size, 2, none⟩ (show w5.heap.size < w7.heap.size by omega)).trans q7_8
      go_wp2_with fail
      have q7_9 : True := trivial
      have q7_10 : True := trivial
      have q7_11 : True := trivial
      refine (eqMaze_c _ _ R R _ ((HG.out.mz (by omega) (by omega)).later (Below.alloc (Below.refl _ _) (by first | omega | (simp; done) | (simp; omega) | (dsimp only; omega)) _)) (HW.out.later (Below.alloc B4_7.out (by first | omega | (simp; done) | (simp; omega) | (dsimp only; omega)) _))).mono ?_
      rintro e w8 ⟨rfl, hb8⟩
      have z8 : w7.heap.size + 1 ≤ w8.heap.size := by have := hb8.size; (try simp at this); omega
      have q8_0 : w8.cell? ⟨w.heap.size, 0, none⟩ = some (.int .i64 s) := by rw [hb8.cell (p := ⟨w.heap.size, 0, none⟩) (by first | omega | (simp; done) | (simp; omega) | (dsimp only; omega))]; first | exact q7_0 | (rw [World.cell?_alloc_past _ _ _ (by omega)]; exact q7_0) | (simp [go_sem]; done)
      have q8_1 : w8.cell? ⟨w.heap.size, 1, none⟩ = some (.slice ad gs.length cd) := by rw [hb8.cell (p := ⟨w.heap.size, 1, none⟩) (by first | omega | (simp; done) | (simp; omega) | (dsimp only; omega))]; first | exact q7_1 | (rw [World.cell?_alloc_past _ _ _ (by omega)]; exact q7_1) | (simp [go_sem]; done)
      have q8_2 : w8.cell? ⟨w.heap.size, 2, none⟩ = some (.slice ak ps.length ck) := by rw [hb8.cell (p := ⟨w.heap.size, 2, none⟩) (by first | omega | (simp; done) | (simp; omega) | (dsimp only; omega))]; first | exact q7_2 | (rw [World.cell?_alloc_past _ _ _ (by omega)]; exact q7_2) | (simp [go_sem]; done)
      have q8_3 : w8.cell? ⟨w4.heap.size, 0, none⟩ = some (.int .i64 R.size) := by rw [hb8.cell (p := ⟨w4.heap.size, 0, none⟩) (by first | omega | (simp; done) | (simp; omega) | (dsimp only; omega))]; first | exact q7_3 | (rw [World.cell?_alloc_past _ _ _ (by omega)]; exact q7_3) | (simp [go_sem]; done)
      have q8_4 : w8.cell? ⟨w4.heap.size, 1, none⟩ = some (.slice adw R.doors.length cdw) := by rw [hb8.cell (p := ⟨w4.heap.size, 1, none⟩) (by first | omega | (simp; done) | (simp; omega) | (dsimp only; omega))]; first | exact q7_4 | (rw [World.cell?_alloc_past _ _ _ (by omega)]; exact q7_4) | (simp [go_sem]; done)
      have q8_5 : w8.cell? ⟨w4.heap.size, 2, none⟩ = some (.slice akw R.keys.length ckw) := by rw [hb8.cell (p := ⟨w4.heap.size, 2, none⟩) (by first | omega | (simp; done) | (simp; omega) | (dsimp only; omega))]; first | exact q7_5 | (rw [World.cell?_alloc_past _ _ _ (by omega)]; exact q7_5) | (simp [go_sem]; done)
      have q8_6 : w8.cell? ⟨w5.heap.size, 0, none⟩ = some (.int .i64 s) := by rw [hb8.cell (p := ⟨w5.heap.size, 0, none⟩) (by first | omega | (simp; done) | (simp; omega) | (dsimp only; omega))]; first | exact q7_6 | (rw [World.cell?_alloc_past _ _ _ (by omega)]; exact q7_6) | (simp [go_sem]; done)
      have q8_7 : w8.cell? ⟨w5.heap.size, 1, none⟩ = some (.slice ad4 gs.length cd4) := by rw [hb8.cell (p := ⟨w5.heap.size, 1, none⟩) (by first | omega | (simp; done) | (simp; omega) | (dsimp only; omega))]; first | exact q7_7 | (rw [World.cell?_alloc_past _ _ _ (by omega)]; exact q7_7) | (simp [go_sem]; done)
      have q8_8 : w8.cell? ⟨w5.heap.size, 2, none⟩ = some (.slice ak4 ps.length ck4) := by rw [hb8.cell (p := ⟨w5.heap.size, 2, none⟩) (by first | omega | (simp; done) | (simp; omega) | (dsimp only; omega))]; first | exact q7_8 | (rw [World.cell?_alloc_past _ _ _ (by omega)]; exact q7_8) | (simp [go_sem]; done)
      have q8_9 : w8.cell? ⟨w7.heap.size, 0, none⟩ = some (.int .i64 R.size) := by rw [hb8.cell (p := ⟨w7.heap.size, 0, none⟩) (by first | omega | (simp; done) | (simp; omega) | (dsimp only; omega))]; first | exact q7_9 | (rw [World.cell?_alloc_past _ _ _ (by omega)]; exact q7_9) | (simp [go_sem]; done)
      have q8_10 : w8.cell? ⟨w7.heap.size, 1, none⟩ = some (.slice adg R.doors.length cdg) := by rw [hb8.cell (p := ⟨w7.heap.size, 1, none⟩) (by first | omega | (simp; done) | (simp; omega) | (dsimp only; omega))]; first | exact q7_10 | (rw [World.cell?_alloc_past _ _ _ (by omega)]; exact q7_10) | (simp [go_sem]; done)
      have q8_11 : w8.cell? ⟨w7.heap.size, 2, none⟩ = some (.slice akg R.keys.length ckg) := by rw [hb8.cell (p := ⟨w7.heap.size, 2, none⟩) (by first | omega | (simp; done) | (simp; omega) | (dsimp only; omega))]; first | exact q7_11 | (rw [World.cell?_alloc_past _ _ _ (by omega)]; exact q7_11) | (simp [go_sem]; done)
      have B0_8 : Hid (Below w.heap.size w w8) := (below_then (Below.alloc B0_7.out (by first | omega | (simp; done) | (simp; omega) | (dsimp only; omega)) _) hb8)
      have B4_8 : Hid (Below w4.heap.size w4 w8) := (below_then (Below.alloc B4_7.out (by first | omega | (simp; done) | (simp; omega) | (dsimp only; omega)) _) hb8)
      have B5_8 : Hid (Below w5.heap.size w5 w8) := (below_then (Below.alloc B5_7.out (by first | omega | (simp; done) | (simp; omega) | (dsimp only; omega)) _) hb8)
      have B6_8 : Hid (Below w6.heap.size w6 w8) := (below_then (Below.alloc B6_7.out (by first | omega | (simp; done) | (simp; omega) | (dsimp only; omega)) _) hb8)
      have B7_8 : Hid (Below w7.heap.size w7 w8) := (below_then (Below.alloc (Below.refl _ _) (by first | omega | (simp; done) | (simp; omega) | (dsimp only; omega)) _) hb8)
      go_wp2_with fail
      go_region_held3 (fun W => W.cell? ⟨w.heap.size, 0, none⟩ = some (.int .i64 s) ∧ W.cell? ⟨w.heap.size, 1, none⟩ = some (.slice ad gs.length cd) ∧ W.cell? ⟨w.heap.size, 2, none⟩ = some (.slice ak ps.length ck) ∧ W.cell? ⟨w4.heap.size, 0, none⟩ = some (.int .i64 R.size) ∧ W.cell? ⟨w4.heap.size, 1, none⟩ = some (.slice adw R.doors.length cdw) ∧ W.cell? ⟨w4.heap.size, 2, none⟩ = some (.slice akw R.keys.length ckw) ∧ W.cell? ⟨w5.heap.size, 0, none⟩ = some (.int .i64 s) ∧ W.cell? ⟨w5.heap.size, 1, none⟩ = some (.slice ad4 gs.length cd4) ∧ W.cell? ⟨w5.heap.size, 2, none⟩ = some (.slice ak4 ps.length ck4) ∧ W.cell? ⟨w7.heap.size, 0, none⟩ = some (.int .i64 R.size) ∧ W.cell? ⟨w7.heap.size, 1, none⟩ = some (.slice adg R.doors.length cdg) ∧ W.cell? ⟨w7.heap.size, 2, none⟩ = some (.slice akg R.keys.length ckg))
        (first | exact ⟨q8_0, q8_1, q8_2, q8_3, q8_4, q8_5, q8_6, q8_7, q8_8, q8_9, q8_10, q8_11⟩ | exact ⟨q9_0, q9_1, q9_2, q9_3, q9_4, q9_5, q9_6, q9_7, q9_8, q9_9, q9_10, q9_11⟩ | exact ⟨q10_0, q10_1, q10_2, q10_3, q10_4, q10_5, q10_6, q10_7, q10_8, q10_9, q10_10, q10_11⟩)
        (first | (go_at_call 9; refine (toMaze_c _ _ _ (hm.later (B0_8.out).drew)).mono ?_; rintro e w9 ⟨u9, rfl, ho9, hb9⟩; have HO9 := Lib.hid ho9; clear ho9; have q9_0 : w9.cell? ⟨w.heap.size, 0, none⟩ = some (.int .i64 s) := (hb9.cell (p := ⟨w.heap.size, 0, none⟩) (show w.heap.size < w8.heap.size from by omega)).trans q8_0; have q9_1 : w9.cell? ⟨w.heap.size, 1, none⟩ = some (.slice ad gs.length cd) := (hb9.cell (p := ⟨w.heap.size, 1, none⟩) (show w.heap.size < w8.heap.size from by omega)).trans q8_1; have q9_2 : w9.cell? ⟨w.heap.size, 2, none⟩ = some (.slice ak ps.length ck) := (hb9.cell (p := ⟨w.heap.size, 2, none⟩) (show w.heap.size < w8.heap.size from by omega)).trans q8_2; have q9_3 : w9.cell? ⟨w4.heap.size, 0, none⟩ = some (.int .i64 R.size) := (hb9.cell (p := ⟨w4.heap.size, 0, none⟩) (show w4.heap.size < w8.heap.size from by omega)).trans q8_3; have q9_4 : w9.cell? ⟨w4.heap.size, 1, none⟩ = some (.slice adw R.doors.length cdw) := (hb9.cell (p := ⟨w4.heap.size, 1, none⟩) (show w4.heap.size < w8.heap.size from by omega)).trans q8_4; have q9_5 : w9.cell? ⟨w4.heap.size, 2, none⟩ = some (.slice akw R.keys.length ckw) := (hb9.cell (p := ⟨w4.heap.size, 2, none⟩) (show w4.heap.size < w8.heap.size from by omega)).trans q8_5; have q9_6 : w9.cell? ⟨w5.heap.size, 0, none⟩ = some (.int .i64 s) := (hb9.cell (p := ⟨w5.heap.size, 0, none⟩) (show w5.heap.size < w8.heap.size from by omega)).trans q8_6; have q9_7 : w9.cell? ⟨w5.heap.size, 1, none⟩ = some (.slice ad4 gs.length cd4) := (hb9.cell (p := ⟨w5.heap.size, 1, none⟩) (show w5.heap.size < w8.heap.size from by omega)).trans q8_7; have q9_8 : w9.cell? ⟨w5.heap.size, 2, none⟩ = some (.slice ak4 ps.length ck4) := (hb9.cell (p := ⟨w5.heap.size, 2, none⟩) (show w5.heap.size < w8.heap.size from by omega)).trans q8_8; have q9_9 : w9.cell? ⟨w7.heap.size, 0, none⟩ = some (.int .i64 R.size) := (hb9.cell (p := ⟨w7.heap.size, 0, none⟩) (show w7.heap.size < w8.heap.size from by omega)).trans q8_9; have q9_10 : w9.cell? ⟨w7.heap.size, 1, none⟩ = some (.slice adg R.doors.length cdg) := (hb9.cell (p := ⟨w7.heap.size, 1, none⟩) (show w7.heap.size < w8.heap.size from by omega)).trans q8_10; have q9_11 : w9.cell? ⟨w7.heap.size, 2, none⟩ = some (.slice akg R.keys.length ckg) := (hb9.cell (p := ⟨w7.heap.size, 2, none⟩) (show w7.heap.size < w8.heap.size from by omega)).trans q8_11) | (go_at_call 13; refine (eqMaze_c _ _ ⟨s, gs, ps⟩ ⟨s, gs, ps⟩ _ ((HO5.out.mz n1 n2).later (below_then (B5_8.out).drew hb9)) (HO9.out.mz n1 n2)).mono ?_; rintro e w10 ⟨rfl, hb10⟩; have q10_0 : w10.cell? ⟨w.heap.size, 0, none⟩ = some (.int .i64 s) := (hb10.cell (p := ⟨w.heap.size, 0, none⟩) (show w.heap.size < w9.heap.size from (by have : w8.heap.size ≤ w9.heap.size := hb9.size; omega))).trans q9_0; have q10_1 : w10.cell? ⟨w.heap.size, 1, none⟩ = some (.slice ad gs.length cd) := (hb10.cell (p := ⟨w.heap.size, 1, none⟩) (show w.heap.size < w9.heap.size from (by have : w8.heap.size ≤ w9.heap.size := hb9.size; omega))).trans q9_1; have q10_2 : w10.cell? ⟨w.heap.size, 2, none⟩ = some (.slice ak ps.length ck) := (hb10.cell (p := ⟨w.heap.size, 2, none⟩) (show w.heap.size < w9.heap.size from (by have : w8.heap.size ≤ w9.heap.size := hb9.size; omega))).trans q9_2; have q10_3 : w10.cell? ⟨w4.heap.size, 0, none⟩ = some (.int .i64 R.size) := (hb10.cell (p := ⟨w4.heap.size, 0, none⟩) (show w4.heap.size < w9.heap.size from (by have : w8.heap.size ≤ w9.heap.size := hb9.size; omega))).trans q9_3; have q10_4 : w10.cell? ⟨w4.heap.size, 1, none⟩ = some (.slice adw R.doors.length cdw) := (hb10.cell (p := ⟨w4.heap.size, 1, none⟩) (show w4.heap.size < w9.heap.size from (by have : w8.heap.size ≤ w9.heap.size := hb9.size; omega))).trans q9_4; have q10_5 : w10.cell? ⟨w4.heap.size, 2, none⟩ = some (.slice akw R.keys.length ckw) := (hb10.cell (p := ⟨w4.heap.size, 2, none⟩) (show w4.heap.size < w9.heap.size from (by have : w8.heap.size ≤ w9.heap.size := hb9.size; omega))).trans q9_5; have q10_6 : w10.cell? ⟨w5.heap.size, 0, none⟩ = some (.int .i64 s) := (hb10.cell (p := ⟨w5.heap.size, 0, none⟩) (show w5.heap.size < w9.heap.size from (by have : w8.heap.size ≤ w9.heap.size := hb9.size; omega))).trans q9_6; have q10_7 : w10.cell? ⟨w5.heap.size, 1, none⟩ = some (.slice ad4 gs.length cd4) := (hb10.cell (p := ⟨w5.heap.size, 1, none⟩) (show w5.heap.size < w9.heap.size from (by have : w8.heap.size ≤ w9.heap.size := hb9.size; omega))).trans q9_7; have q10_8 : w10.cell? ⟨w5.heap.size, 2, none⟩ = some (.slice ak4 ps.length ck4) := (hb10.cell (p := ⟨w5.heap.size, 2, none⟩) (show w5.heap.size < w9.heap.size from (by have : w8.heap.size ≤ w9.heap.size := hb9.size; omega))).trans q9_8; have q10_9 : w10.cell? ⟨w7.heap.size, 0, none⟩ = some (.int .i64 R.size) := (hb10.cell (p := ⟨w7.heap.size, 0, none⟩) (show w7.heap.size < w9.heap.size from (by have : w8.heap.size ≤ w9.heap.size := hb9.size; omega))).trans q9_9; have q10_10 : w10.cell? ⟨w7.heap.size, 1, none⟩ = some (.slice adg R.doors.length cdg) := (hb10.cell (p := ⟨w7.heap.size, 1, none⟩) (show w7.heap.size < w9.heap.size from (by have : w8.heap.size ≤ w9.heap.size := hb9.size; omega))).trans q9_10; have q10_11 : w10.cell? ⟨w7.heap.size, 2, none⟩ = some (.slice akg R.keys.length ckg) := (hb10.cell (p := ⟨w7.heap.size, 2, none⟩) (show w7.heap.size < w9.heap.size from (by have : w8.heap.size ≤ w9.heap.size := hb9.size; omega))).trans q9_11))
      have z9 : w8.heap.size ≤ w9.heap.size := hb9.size
      have z10 : w9.heap.size ≤ w10.heap.size := hb10.size
      have B0_10 : Hid (Below w.heap.size w w10) := (below_then (below_then (Below.drew B0_8.out) hb9) hb10)
      have B4_10 : Hid (Below w4.heap.size w4 w10) := (below_then (below_then (Below.drew B4_8.out) hb9) hb10)
      have B5_10 : Hid (Below w5.heap.size w5 w10) := (below_then (below_then (Below.drew B5_8.out) hb9) hb10)
      have B6_10 : Hid (Below w6.heap.size w6 w10) := (below_then (below_then (Below.drew B6_8.out) hb9) hb10)
      have B7_10 : Hid (Below w7.heap.size w7 w10) := (below_then (below_then (Below.drew B7_8.out) hb9) hb10)
      go_wp2_with fail
      refine (toIntS_c _ _ _ _ (hs2.later B0_10.out) g2).mono ?_
      rintro e w11 ⟨v11, rfl, ho11, hb11⟩
      have z11 : w10.heap.size ≤ w11.heap.size := by have := hb11.size; (try simp at this); omega
      have q11_0 : w11.cell? ⟨w.heap.size, 0, none⟩ = some (.int .i64 s) := by rw [hb11.cell (p := ⟨w.heap.size, 0, none⟩) (by first | omega | (simp; done) | (simp; omega) | (dsimp only; omega))]; first | exact q10_0 | (rw [World.cell?_alloc_past _ _ _ (by omega)]; exact q10_0) | (simp [go_sem]; done)
      have q11_1 : w11.cell? ⟨w.heap.size, 1, none⟩ = some (.slice ad gs.length cd) := by rw [hb11.cell (p := ⟨w.heap.size, 1, none⟩) (by first | omega | (simp; done) | (simp; omega) | (dsimp only; omega))]; first | exact q10_1 | (rw [World.cell?_alloc_past _ _ _ (by omega)]; exact q10_1) | (simp [go_sem]; done)
      have q11_2 : w11.cell? ⟨w.heap.size, 2, none⟩ = some (.slice ak ps.length ck) := by rw [hb11.cell (p := ⟨w.heap.size, 2, none⟩) (by first | omega | (simp; done) | (simp; omega) | (dsimp only; omega))]; first | exact q10_2 | (rw [World.cell?_alloc_past _ _ _ (by omega)]; exact q10_2) | (simp [go_sem]; done)
      have q11_3 : w11.cell? ⟨w4.heap.size, 0, none⟩ = some (.int .i64 R.size) := by rw [hb11.cell (p := ⟨w4.heap.size, 0, none⟩) (by first | omega | (simp; done) | (simp; omega) | (dsimp only; omega))]; first | exact q10_3 | (rw [World.cell?_alloc_past _ _ _ (by omega)]; exact q10_3) | (simp [go_sem]; done)
      have q11_4 : w11.cell? ⟨w4.heap.size, 1, none⟩ = some (.slice adw R.doors.length cdw) := by rw [hb11.cell (p := ⟨w4.heap.size, 1, none⟩) (by first | omega | (simp; done) | (simp; omega) | (dsimp only; omega))]; first | exact q10_4 | (rw [World.cell?_alloc_past _ _ _ (by omega)]; exact q10_4) | (simp [go_sem]; done)
      have q11_5 : w11.cell? ⟨w4.heap.size, 2, none⟩ = some (.slice akw R.keys.length ckw) := by rw [hb11.cell (p := ⟨w4.heap.size, 2, none⟩) (by first | omega | (simp; done) | (simp; omega) | (dsimp only; omega))]; first | exact q10_5 | (rw [World.cell?_alloc_past _ _ _ (by omega)]; exact q10_5) | (simp [go_sem]; done)
      have q11_6 : w11.cell? ⟨w5.heap.size, 0, none⟩ = some (.int .i64 s) := by rw [hb11.cell (p := ⟨w5.heap.size, 0, none⟩) (by first | omega | (simp; done) | (simp; omega) | (dsimp only; omega))]; first | exact q10_6 | (rw [World.cell?_alloc_past _ _ _ (by omega)]; exact q10_6) | (simp [go_sem]; done)
      have q11_7 : w11.cell? ⟨w5.heap.size, 1, none⟩ = some (.slice ad4 gs.length cd4) := by rw [hb11.cell (p := ⟨w5.heap.size, 1, none⟩) (by first | omega | (simp; done) | (simp; omega) | (dsimp only; omega))]; first | exact q10_7 | (rw [World.cell?_alloc_past _ _ _ (by omega)]; exact q10_7) | (simp [go_sem]; done)
      have q11_8 : w11.cell? ⟨w5.heap.size, 2, none⟩ = some (.slice ak4 ps.length ck4) := by rw [hb11.cell (p := ⟨w5.heap.size, 2, none⟩) (by first | omega | (simp; done) | (simp; omega) | (dsimp only; omega))]; first | exact q10_8 | (rw [World.cell?_alloc_past _ _ _ (by omega)]; exact q10_8) | (simp [go_sem]; done)
      have q11_9 : w11.cell? ⟨w7.heap.size, 0, none⟩ = some (.int .i64 R.size) := by rw [hb11.cell (p := ⟨w7.heap.size, 0, none⟩) (by first | omega | (simp; done) | (simp; omega) | (dsimp only; omega))]; first | exact q10_9 | (rw [World.cell?_alloc_past _ _ _ (by omega)]; exact q10_9) | (simp [go_sem]; done)
      have q11_10 : w11.cell? ⟨w7.heap.size, 1, none⟩ = some (.slice adg R.doors.length cdg) := by rw [hb11.cell (p := ⟨w7.heap.size, 1, none⟩) (by first | omega | (simp; done) | (simp; omega) | (dsimp only; omega))]; first | exact q10_10 | (rw [World.cell?_alloc_past _ _ _ (by omega)]; exact q10_10) | (simp [go_sem]; done)
      have q11_11 : w11.cell? ⟨w7.heap.size, 2, none⟩ = some (.slice akg R.keys.length ckg) := by rw [hb11.cell (p := ⟨w7.heap.size, 2, none⟩) (by first | omega | (simp; done) | (simp; omega) | (dsimp only; omega))]; first | exact q10_11 | (rw [World.cell?_alloc_past _ _ _ (by omega)]; exact q10_11) | (simp [go_sem]; done)
      have B0_11 : Hid (Below w.heap.size w w11) := (below_then B0_10.out hb11)
      have B4_11 : Hid (Below w4.heap.size w4 w11) := (below_then B4_10.out hb11)
      have B5_11 : Hid (Below w5.heap.size w5 w11) := (below_then B5_10.out hb11)
      have B6_11 : Hid (Below w6.heap.size w6 w11) := (below_then B6_10.out hb11)
      have B7_11 : Hid (Below w7.heap.size w7 w11) := (below_then B7_10.out hb11)
      have HO11 := Lib.hid (Own.of ho11); clear ho11
      obtain ⟨a11, c11, rfl, -, hi11⟩ := HO11.out.ic
      clear hi11
      go_wp2_with fail
      refine (eqIntS_c _ _ _ _ ls2 ls2 _ (ic_of (HO6.out.later B6_11.out (by first | exact Nat.le_refl _ | omega | (simp; done) | (simp; omega)))) (ic_of (HO11.out.later (Below.refl _ _) (by first | exact Nat.le_refl _ | omega | (simp; done) | (simp; omega)))) g2 g2).mono ?_
      rintro e w12 ⟨rfl, hb12⟩
      have z12 : w11.heap.size ≤ w12.heap.size := by have := hb12.size; (try simp at this); omega
      have q12_0 : w12.cell? ⟨w.heap.size, 0, none⟩ = some (.int .i64 s) := by rw [hb12.cell (p := ⟨w.heap.size, 0, none⟩) (by first | omega | (simp; done) | (simp; omega) | (dsimp only; omega))]; first | exact q11_0 | (rw [World.cell?_alloc_past _ _ _ (by omega)]; exact q11_0) | (simp [go_sem]; done)
      have q12_1 : w12.cell? ⟨w.heap.size, 1, none⟩ = some (.slice ad gs.length cd) := by rw [hb12.cell (p := ⟨w.heap.size, 1, none⟩) (by first | omega | (simp; done) | (simp; omega) | (dsimp only; omega))]; first | exact q11_1 | (rw [World.cell?_alloc_past _ _ _ (by omega)]; exact q11_1) | (simp [go_sem]; done)
      have q12_2 : w12.cell? ⟨w.heap.size, 2, none⟩ = some (.slice ak ps.length ck) := by rw [hb12.cell (p := ⟨w.heap.size, 2, none⟩) (by first | omega | (simp; done) | (simp; omega) | (dsimp only; omega))]; first | exact q11_2 | (rw [World.cell?_alloc_past _ _ _ (by omega)]; exact q11_2) | (simp [go_sem]; done)
      have q12_3 : w12.cell? ⟨w4.heap.size, 0, none⟩ = some (.int .i64 R.size) := by rw [hb12.cell (p := ⟨w4.heap.size, 0, none⟩) (by first | omega | (simp; done) | (simp; omega) | (dsimp only; omega))]; first | exact q11_3 | (rw [World.cell?_alloc_past _ _ _ (by omega)]; exact q11_3) | (simp [go_sem]; done)
      have q12_4 : w12.cell? ⟨w4.heap.size, 1, none⟩ = some (.slice adw R.doors.length cdw) := by rw [hb12.cell (p := ⟨w4.heap.size, 1, none⟩) (by first | omega | (simp; done) | (simp; omega) | (dsimp only; omega))]; first | exact q11_4 | (rw [World.cell?_alloc_past _ _ _ (by omega)]; exact q11_4) | (simp [go_sem]; done)
      have q12_5 : w12.cell? ⟨w4.heap.size, 2, none⟩ = some (.slice akw R.keys.length ckw) := by rw [hb12.cell (p := ⟨w4.heap.size, 2, none⟩) (by first | omega | (simp; done) | (simp; omega) | (dsimp only; omega))]; first | exact q11_5 | (rw [World.cell?_alloc_past _ _ _ (by omega)]; exact q11_5) | (simp [go_sem]; done)
      have q12_6 : w12.cell? ⟨w5.heap.size, 0, none⟩ = some (.int .i64 s) := by rw [hb12.cell (p := ⟨w5.heap.size, 0, none⟩) (by first | omega | (simp; done) | (simp; omega) | (dsimp only; omega))]; first | exact q11_6 | (rw [World.cell?_alloc_past _ _ _ (by omega)]; exact q11_6) | (simp [go_sem]; done)
      have q12_7 : w12.cell? ⟨w5.heap.size, 1, none⟩ = some (.slice ad4 gs.length cd4) := by rw [hb12.cell (p := ⟨w5.heap.size, 1, none⟩) (by first | omega | (simp; done) | (simp; omega) | (dsimp only; omega))]; first | exact q11_7 | (rw [World.cell?_alloc_past _ _ _ (by omega)]; exact q11_7) | (simp [go_sem]; done)
      have q12_8 : w12.cell? ⟨w5.heap.size, 2, none⟩ = some (.slice ak4 ps.length ck4) := by rw [hb12.cell (p := ⟨w5.heap.size, 2, none⟩) (by first | omega | (simp; done) | (simp; omega) | (dsimp only; omega))]; first | exact q11_8 | (rw [World.cell?_alloc_past _ _ _ (by omega)]; exact q11_8) | (simp [go_sem]; done)
      have q12_9 : w12.cell? ⟨w7.heap.size, 0, none⟩ = some (.int .i64 R.size) := by rw [hb12.cell (p := ⟨w7.heap.size, 0, none⟩) (by first | omega | (simp; done) | (simp; omega) | (dsimp only; omega))]; first | exact q11_9 | (rw [World.cell?_alloc_past _ _ _ (by omega)]; exact q11_9) | (simp [go_sem]; done)
      have q12_10 : w12.cell? ⟨w7.heap.size, 1, none⟩ = some (.slice adg R.doors.length cdg) := by rw [hb12.cell (p := ⟨w7.heap.size, 1, none⟩) (by first | omega | (simp; done) | (simp; omega) | (dsimp only; omega))]; first | exact q11_10 | (rw [World.cell?_alloc_past _ _ _ (by omega)]; exact q11_10) | (simp [go_sem]; done)
      have q12_11 : w12.cell? ⟨w7.heap.size, 2, none⟩ = some (.slice akg R.keys.length ckg) := by rw [hb12.cell (p := ⟨w7.heap.size, 2, none⟩) (by first | omega | (simp; done) | (simp; omega) | (dsimp only; omega))]; first | exact q11_11 | (rw [World.cell?_alloc_past _ _ _ (by omega)]; exact q11_11) | (simp [go_sem]; done)
      have B0_12 : Hid (Below w.heap.size w w12) := (below_then B0_11.out hb12)
      have B4_12 : Hid (Below w4.heap.size w4 w12) := (below_then B4_11.out hb12)
      have B5_12 : Hid (Below w5.heap.size w5 w12) := (below_then B5_11.out hb12)
      have B6_12 : Hid (Below w6.heap.size w6 w12) := (below_then B6_11.out hb12)
      have B7_12 : Hid (Below w7.heap.size w7 w12) := (below_then B7_11.out hb12)
      go_wp2_with fail
      refine (markMaze_c _ _ _ ⟨s, gs, ps⟩ _ _ (HO5.out.later B5_12.out (Nat.le_refl _)) (by omega) n1 n2 (by omega) (by omega)).mono ?_
      rintro e w13 ⟨rfl, hc13⟩
      have z13 : w12.heap.size ≤ w13.heap.size := by have := hc13.size; (try simp at this); omega
      have q13_0 : w13.cell? ⟨w.heap.size, 0, none⟩ = some (.int .i64 s) := (hc13.cell (p := ⟨w.heap.size, 0, none⟩) (show w.heap.size < w12.heap.size by omega) (by first | (left; show w.heap.size < _; omega) | (right; show _ ≤ w.heap.size; omega) | (left; simp; done) | (left; simp; omega) | (right; simp; omega))).trans q12_0
      have q13_1 : w13.cell? ⟨w.heap.size, 1, none⟩ = some (.slice ad gs.length cd) := (hc13.cell (p := ⟨w.heap.size, 1, none⟩) (show w.heap.size < w12.heap.size by omega) (by first | (left; show w.heap.size < _; omega) | (right; show _ ≤ w.heap.size; omega) | (left; simp; done) | (left; simp; omega) | (right; simp; omega))).trans q12_1
      have q13_2 : w13.cell? ⟨w.heap.size, 2, none⟩ = some (.slice ak ps.length ck) := (hc13.cell (p := ⟨w.heap.size, 2, none⟩) (show w.heap.size < w12.heap.size by omega) (by first | (left; show w.heap.size < _; omega) | (right; show _ ≤ w.heap.size; omega) | (left; simp; done) | (left; simp; omega) | (right; simp; omega))).trans q12_2
      have q13_3 : w13.cell? ⟨w4.heap.size, 0, none⟩ = some (.int .i64 R.size) := (hc13.cell (p := ⟨w4.heap.size, 0, none⟩) (show w4.heap.size < w12.heap.size by omega) (by first | (left; show w4.heap.size < _; omega) | (right; show _ ≤ w4.heap.size; omega) | (left; simp; done) | (left; simp; omega) | (right; simp; omega))).trans q12_3
      have q13_4 : w13.cell? ⟨w4.heap.size, 1, none⟩ = some (.slice adw R.doors.length cdw) := (hc13.cell (p := ⟨w4.heap.size, 1, none⟩) (show w4.heap.size < w12.heap.size by omega) (by first | (left; show w4.heap.size < _; omega) | (right; show _ ≤ w4.heap.size; omega) | (left; simp; done) | (left; simp; omega) | (right; simp; omega))).trans q12_4
      have q13_5 : w13.cell? ⟨w4.heap.size, 2, none⟩ = some (.slice akw R.keys.length ckw) := (hc13.cell (p := ⟨w4.heap.size, 2, none⟩) (show w4.heap.size < w12.heap.size by omega) (by first | (left; show w4.heap.size < _; omega) | (right; show _ ≤ w4.heap.size; omega) | (left; simp; done) | (left; simp; omega) | (right; simp; omega))).trans q12_5
      have q13_6 : w13.cell? ⟨w5.heap.size, 0, none⟩ = some (.int .i64 s) := (hc13.cell (p := ⟨w5.heap.size, 0, none⟩) (show w5.heap.size < w12.heap.size by omega) (by first | (left; show w5.heap.size < _; omega) | (right; show _ ≤ w5.heap.size; omega) | (left; simp; done) | (left; simp; omega) | (right; simp; omega))).trans q12_6
      have q13_7 : w13.cell? ⟨w5.heap.size, 1, none⟩ = some (.slice ad4 gs.length cd4) := (hc13.cell (p := ⟨w5.heap.size, 1, none⟩) (show w5.heap.size < w12.heap.size by omega) (by first | (left; show w5.heap.size < _; omega) | (right; show _ ≤ w5.heap.size; omega) | (left; simp; done) | (left; simp; omega) | (right; simp; omega))).trans q12_7
      have q13_8 : w13.cell? ⟨w5.heap.size, 2, none⟩ = some (.slice ak4 ps.length ck4) := (hc13.cell (p := ⟨w5.heap.size, 2, none⟩) (show w5.heap.size < w12.heap.size by omega) (by first | (left; show w5.heap.size < _; omega) | (right; show _ ≤ w5.heap.size; omega) | (left; simp; done) | (left; simp; omega) | (right; simp; omega))).trans q12_8
      have q13_9 : w13.cell? ⟨w7.heap.size, 0, none⟩ = some (.int .i64 R.size) := (hc13.cell (p := ⟨w7.heap.size, 0, none⟩) (show w7.heap.size < w12.heap.size by omega) (by first | (left; show w7.heap.size < _; omega) | (right; show _ ≤ w7.heap.size; omega) | (left; simp; done) | (left; simp; omega) | (right; simp; omega))).trans q12_9
      have q13_10 : w13.cell? ⟨w7.heap.size, 1, none⟩ = some (.slice adg R.doors.length cdg) := (hc13.cell (p := ⟨w7.heap.size, 1, none⟩) (show w7.heap.size < w12.heap.size by omega) (by first | (left; show w7.heap.size < _; omega) | (right; show _ ≤ w7.heap.size; omega) | (left; simp; done) | (left; simp; omega) | (right; simp; omega))).trans q12_10
      have q13_11 : w13.cell? ⟨w7.heap.size, 2, none⟩ = some (.slice akg R.keys.length ckg) := (hc13.cell (p := ⟨w7.heap.size, 2, none⟩) (show w7.heap.size < w12.heap.size by omega) (by first | (left; show w7.heap.size < _; omega) | (right; show _ ≤ w7.heap.size; omega) | (left; simp; done) | (left; simp; omega) | (right; simp; omega))).trans q12_11
      have HG_13 := Lib.hid ((HG.out.later B7_12.out (by first | exact Nat.le_refl _ | omega | (simp; done) | (simp; omega))).chg hc13 (by first | (left; first | omega | (simp; done) | (simp; omega)) | (right; first | omega | (simp; done) | (simp; omega))))
      have HO6_13 := Lib.hid ((HO6.out.later B6_12.out (by first | exact Nat.le_refl _ | omega | (simp; done) | (simp; omega))).chg hc13 (by first | (left; first | omega | (simp; done) | (simp; omega)) | (right; first | omega | (simp; done) | (simp; omega))))
      have B0_13 : Hid (Below w.heap.size w w13) := (Below.trans B0_12.out (hc13.below (by first | omega | (simp; done) | (simp; omega) | (dsimp only; omega)) (by first | omega | (simp; done) | (simp; omega) | (dsimp only; omega))))
      have B4_13 : Hid (Below w4.heap.size w4 w13) := (Below.trans B4_12.out (hc13.below (by first | omega | (simp; done) | (simp; omega) | (dsimp only; omega)) (by first | omega | (simp; done) | (simp; omega) | (dsimp only; omega))))
      have hk0 : decide (1 + (gs.length : Int) * 3 + (ps.length : Int) < 0) = false := by simp; omega
      go_wp2_with fail
      refine (markIntS_c _ _ _ 3 _ ls2 _ _ rfl HO6_13.out.row g2 (by omega) (by omega)).mono ?_
      rintro e w14 ⟨rfl, -, hgr14⟩
      have hbl14 := HO6.out.blocks
      have hc14 : Chg (w5.heap.size + 1) w6.heap.size w13 w14 := Chg.of_grown hgr14 (fun g hg => by have := hbl14 g hg; (try simp at this); omega)
      have z14 : w13.heap.size ≤ w14.heap.size := by have := hc14.size; (try simp at this); omega
      have q14_0 : w14.cell? ⟨w.heap.size, 0, none⟩ = some (.int .i64 s) := (hc14.cell (p := ⟨w.heap.size, 0, none⟩) (show w.heap.size < w13.heap.size by omega) (by first | (left; show w.heap.size < _; omega) | (right; show _ ≤ w.heap.size; omega) | (left; simp; done) | (left; simp; omega) | (right; simp; omega))).trans q13_0
      have q14_1 : w14.cell? ⟨w.heap.size, 1, none⟩ = some (.slice ad gs.length cd) := (hc14.cell (p := ⟨w.heap.size, 1, none⟩) (show w.heap.size < w13.heap.size by omega) (by first | (left; show w.heap.size < _; omega) | (right; show _ ≤ w.heap.size; omega) | (left; simp; done) | (left; simp; omega) | (right; simp; omega))).trans q13_1
      have q14_2 : w14.cell? ⟨w.heap.size, 2, none⟩ = some (.slice ak ps.length ck) := (hc14.cell (p := ⟨w.heap.size, 2, none⟩) (show w.heap.size < w13.heap.size by omega) (by first | (left; show w.heap.size < _; omega) | (right; show _ ≤ w.heap.size; omega) | (left; simp; done) | (left; simp; omega) | (right; simp; omega))).trans q13_2
      have q14_3 : w14.cell? ⟨w4.heap.size, 0, none⟩ = some (.int .i64 R.size) := (hc14.cell (p := ⟨w4.heap.size, 0, none⟩) (show w4.heap.size < w13.heap.size by omega) (by first | (left; show w4.heap.size < _; omega) | (right; show _ ≤ w4.heap.size; omega) | (left; simp; done) | (left; simp; omega) | (right; simp; omega))).trans q13_3
      have q14_4 : w14.cell? ⟨w4.heap.size, 1, none⟩ = some (.slice adw R.doors.length cdw) := (hc14.cell (p := ⟨w4.heap.size, 1, none⟩) (show w4.heap.size < w13.heap.size by omega) (by first | (left; show w4.heap.size < _; omega) | (right; show _ ≤ w4.heap.size; omega) | (left; simp; done) | (left; simp; omega) | (right; simp; omega))).trans q13_4
      have q14_5 : w14.cell? ⟨w4.heap.size, 2, none⟩ = some (.slice akw R.keys.length ckw) := (hc14.cell (p := ⟨w4.heap.size, 2, none⟩) (show w4.heap.size < w13.heap.size by omega) (by first | (left; show w4.heap.size < _; omega) | (right; show _ ≤ w4.heap.size; omega) | (left; simp; done) | (left; simp; omega) | (right; simp; omega))).trans q13_5
      have q14_6 : w14.cell? ⟨w5.heap.size, 0, none⟩ = some (.int .i64 s) := (hc14.cell (p := ⟨w5.heap.size, 0, none⟩) (show w5.heap.size < w13.heap.size by omega) (by first | (left; show w5.heap.size < _; omega) | (right; show _ ≤ w5.heap.size; omega) | (left; simp; done) | (left; simp; omega) | (right; simp; omega))).trans q13_6
      have q14_7 : w14.cell? ⟨w5.heap.size, 1, none⟩ = some (.slice ad4 gs.length cd4) := (hc14.cell (p := ⟨w5.heap.size, 1, none⟩) (show w5.heap.size < w13.heap.size by omega) (by first | (left; show w5.heap.size < _; omega) | (right; show _ ≤ w5.heap.size; omega) | (left; simp; done) | (left; simp; omega) | (right; simp; omega))).trans q13_7
      have q14_8 : w14.cell? ⟨w5.heap.size, 2, none⟩ = some (.slice ak4 ps.length ck4) := (hc14.cell (p := ⟨w5.heap.size, 2, none⟩) (show w5.heap.size < w13.heap.size by omega) (by first | (left; show w5.heap.size < _; omega) | (right; show _ ≤ w5.heap.size; omega) | (left; simp; done) | (left; simp; omega) | (right; simp; omega))).trans q13_8
      have q14_9 : w14.cell? ⟨w7.heap.size, 0, none⟩ = some (.int .i64 R.size) := (hc14.cell (p := ⟨w7.heap.size, 0, none⟩) (show w7.heap.size < w13.heap.size by omega) (by first | (left; show w7.heap.size < _; omega) | (right; show _ ≤ w7.heap.size; omega) | (left; simp; done) | (left; simp; omega) | (right; simp; omega))).trans q13_9
      have q14_10 : w14.cell? ⟨w7.heap.size, 1, none⟩ = some (.slice adg R.doors.length cdg) := (hc14.cell (p := ⟨w7.heap.size, 1, none⟩) (show w7.heap.size < w13.heap.size by omega) (by first | (left; show w7.heap.size < _; omega) | (right; show _ ≤ w7.heap.size; omega) | (left; simp; done) | (left; simp; omega) | (right; simp; omega))).trans q13_10
      have q14_11 : w14.cell? ⟨w7.heap.size, 2, none⟩ = some (.slice akg R.keys.length ckg) := (hc14.cell (p := ⟨w7.heap.size, 2, none⟩) (show w7.heap.size < w13.heap.size by omega) (by first | (left; show w7.heap.size < _; omega) | (right; show _ ≤ w7.heap.size; omega) | (left; simp; done) | (left; simp; omega) | (right; simp; omega))).trans q13_11
      have HG_14 := Lib.hid (HG_13.out.chg hc14 (by first | (left; first | omega | (simp; done) | (simp; omega)) | (right; first | omega | (simp; done) | (simp; omega))))
      have B0_14 : Hid (Below w.heap.size w w14) := (Below.trans B0_13.out (hc14.below (by first | omega | (simp; done) | (simp; omega) | (dsimp only; omega)) (by first | omega | (simp; done) | (simp; omega) | (dsimp only; omega))))
      have B4_14 : Hid (Below w4.heap.size w4 w14) := (Below.trans B4_13.out (hc14.below (by first | omega | (simp; done) | (simp; omega) | (dsimp only; omega)) (by first | omega | (simp; done) | (simp; omega) | (dsimp only; omega))))
      go_wp2_with fail
      refine (eqMaze_c _ _ R R _ (HG_14.out.mz (by omega) (by omega)) (HW.out.later B4_14.out)).mono ?_
      rintro e w15 ⟨rfl, hb15⟩
      have z15 : w14.heap.size ≤ w15.heap.size := by have := hb15.size; (try simp at this); omega
      have q15_0 : w15.cell? ⟨w.heap.size, 0, none⟩ = some (.int .i64 s) := by rw [hb15.cell (p := ⟨w.heap.size, 0, none⟩) (by first | omega | (simp; done) | (simp; omega) | (dsimp only; omega))]; first | exact q14_0 | (rw [World.cell?_alloc_past _ _ _ (by omega)]; exact q14_0) | (simp [go_sem]; done)
      have q15_1 : w15.cell? ⟨w.heap.size, 1, none⟩ = some (.slice ad gs.length cd) := by rw [hb15.cell (p := ⟨w.heap.size, 1, none⟩) (by first | omega | (simp; done) | (simp; omega) | (dsimp only; omega))]; first | exact q14_1 | (rw [World.cell?_alloc_past _ _ _ (by omega)]; exact q14_1) | (simp [go_sem]; done)
      have q15_2 : w15.cell? ⟨w.heap.size, 2, none⟩ = some (.slice ak ps.length ck) := by rw [hb15.cell (p := ⟨w.heap.size, 2, none⟩) (by first | omega | (simp; done) | (simp; omega) | (dsimp only; omega))]; first | exact q14_2 | (rw [World.cell?_alloc_past _ _ _ (by omega)]; exact q14_2) | (simp [go_sem]; done)
      have q15_3 : w15.cell? ⟨w4.heap.size, 0, none⟩ = some (.int .i64 R.size) := by rw [hb15.cell (p := ⟨w4.heap.size, 0, none⟩) (by first | omega | (simp; done) | (simp; omega) | (dsimp only; omega))]; first | exact q14_3 | (rw [World.cell?_alloc_past _ _ _ (by omega)]; exact q14_3) | (simp [go_sem]; done)
      have q15_4 : w15.cell? ⟨w4.heap.size, 1, none⟩ = some (.slice adw R.doors.length cdw) := by rw [hb15.cell (p := ⟨w4.heap.size, 1, none⟩) (by first | omega | (simp; done) | (simp; omega) | (dsimp only; omega))]; first | exact q14_4 | (rw [World.cell?_alloc_past _ _ _ (by omega)]; exact q14_4) | (simp [go_sem]; done)
      have q15_5 : w15.cell? ⟨w4.heap.size, 2, none⟩ = some (.slice akw R.keys.length ckw) := by rw [hb15.cell (p := ⟨w4.heap.size, 2, none⟩) (by first | omega | (simp; done) | (simp; omega) | (dsimp only; omega))]; first | exact q14_5 | (rw [World.cell?_alloc_past _ _ _ (by omega)]; exact q14_5) | (simp [go_sem]; done)
      have q15_6 : w15.cell? ⟨w5.heap.size, 0, none⟩ = some (.int .i64 s) := by rw [hb15.cell (p := ⟨w5.heap.size, 0, none⟩) (by first | omega | (simp; done) | (simp; omega) | (dsimp only; omega))]; first | exact q14_6 | (rw [World.cell?_alloc_past _ _ _ (by omega)]; exact q14_6) | (simp [go_sem]; done)
      have q15_7 : w15.cell? ⟨w5.heap.size, 1, none⟩ = some (.slice ad4 gs.length cd4) := by rw [hb15.cell (p := ⟨w5.heap.size, 1, none⟩) (by first | omega | (simp; done) | (simp; omega) | (dsimp only; omega))]; first | exact q14_7 | (rw [World.cell?_alloc_past _ _ _ (by omega)]; exact q14_7) | (simp [go_sem]; done)
      have q15_8 : w15.cell? ⟨w5.heap.size, 2, none⟩ = some (.slice ak4 ps.length ck4) := by rw [hb15.cell (p := ⟨w5.heap.size, 2, none⟩) (by first | omega | (simp; done) | (simp; omega) | (dsimp only; omega))]; first | exact q14_8 | (rw [World.cell?_alloc_past _ _ _ (by omega)]; exact q14_8) | (simp [go_sem]; done)
      have q15_9 : w15.cell? ⟨w7.heap.size, 0, none⟩ = some (.int .i64 R.size) := by rw [hb15.cell (p := ⟨w7.heap.size, 0, none⟩) (by first | omega | (simp; done) | (simp; omega) | (dsimp only; omega))]; first | exact q14_9 | (rw [World.cell?_alloc_past _ _ _ (by omega)]; exact q14_9) | (simp [go_sem]; done)
      have q15_10 : w15.cell? ⟨w7.heap.size, 1, none⟩ = some (.slice adg R.doors.length cdg) := by rw [hb15.cell (p := ⟨w7.heap.size, 1, none⟩) (by first | omega | (simp; done) | (simp; omega) | (dsimp only; omega))]; first | exact q14_10 | (rw [World.cell?_alloc_past _ _ _ (by omega)]; exact q14_10) | (simp [go_sem]; done)
      have q15_11 : w15.cell? ⟨w7.heap.size, 2, none⟩ = some (.slice akg R.keys.length ckg) := by rw [hb15.cell (p := ⟨w7.heap.size, 2, none⟩) (by first | omega | (simp; done) | (simp; omega) | (dsimp only; omega))]; first | exact q14_11 | (rw [World.cell?_alloc_past _ _ _ (by omega)]; exact q14_11) | (simp [go_sem]; done)
      have B0_15 : Hid (Below w.heap.size w w15) := (below_then B0_14.out hb15)
      have B4_15 : Hid (Below w4.heap.size w4 w15) := (below_then B4_14.out hb15)
      have B14_15 : Hid (Below w14.heap.size w14 w15) := (below_then (Below.refl _ _) hb15)
      go_wp2_with fail
      refine (markMaze2_c _ _ _ R _ _ (HG_14.out.later B14_15.out (by first | exact Nat.le_refl _ | omega | (simp; done) | (simp; omega))) (by omega) (by omega) (by omega) (by omega) (by omega)).mono ?_
      rintro e w16 ⟨rfl, hrg, hc16⟩
      have HM0 := Lib.hid (hrg.mono (Nat.le_refl _) (show _ ≤ w16.heap.size by have := hc16.size; (try simp at this); first | omega | (simp; done) | (simp; omega))); clear hrg
      have HM := Lib.hid (HM0.out.mz (by simp [mkMz]; omega) (by simp [mkMz]; omega))
      have z16 : w15.heap.size ≤ w16.heap.size := by have := hc16.size; (try simp at this); omega
      have q16_0 : w16.cell? ⟨w.heap.size, 0, none⟩ = some (.int .i64 s) := (hc16.cell (p := ⟨w.heap.size, 0, none⟩) (show w.heap.size < w15.heap.size by omega) (by first | (left; show w.heap.size < _; omega) | (right; show _ ≤ w.heap.size; omega) | (left; simp; done) | (left; simp; omega) | (right; simp; omega))).trans q15_0
      have q16_1 : w16.cell? ⟨w.heap.size, 1, none⟩ = some (.slice ad gs.length cd) := (hc16.cell (p := ⟨w.heap.size, 1, none⟩) (show w.heap.size < w15.heap.size by omega) (by first | (left; show w.heap.size < _; omega) | (right; show _ ≤ w.heap.size; omega) | (left; simp; done) | (left; simp; omega) | (right; simp; omega))).trans q15_1
      have q16_2 : w16.cell? ⟨w.heap.size, 2, none⟩ = some (.slice ak ps.length ck) := (hc16.cell (p := ⟨w.heap.size, 2, none⟩) (show w.heap.size < w15.heap.size by omega) (by first | (left; show w.heap.size < _; omega) | (right; show _ ≤ w.heap.size; omega) | (left; simp; done) | (left; simp; omega) | (right; simp; omega))).trans q15_2
      have q16_3 : w16.cell? ⟨w4.heap.size, 0, none⟩ = some (.int .i64 R.size) := (hc16.cell (p := ⟨w4.heap.size, 0, none⟩) (show w4.heap.size < w15.heap.size by omega) (by first | (left; show w4.heap.size < _; omega) | (right; show _ ≤ w4.heap.size; omega) | (left; simp; done) | (left; simp; omega) | (right; simp; omega))).trans q15_3
      have q16_4 : w16.cell? ⟨w4.heap.size, 1, none⟩ = some (.slice adw R.doors.length cdw) := (hc16.cell (p := ⟨w4.heap.size, 1, none⟩) (show w4.heap.size < w15.heap.size by omega) (by first | (left; show w4.heap.size < _; omega) | (right; show _ ≤ w4.heap.size; omega) | (left; simp; done) | (left; simp; omega) | (right; simp; omega))).trans q15_4
      have q16_5 : w16.cell? ⟨w4.heap.size, 2, none⟩ = some (.slice akw R.keys.length ckw) := (hc16.cell (p := ⟨w4.heap.size, 2, none⟩) (show w4.heap.size < w15.heap.size by omega) (by first | (left; show w4.heap.size < _; omega) | (right; show _ ≤ w4.heap.size; omega) | (left; simp; done) | (left; simp; omega) | (right; simp; omega))).trans q15_5
      have q16_6 : w16.cell? ⟨w5.heap.size, 0, none⟩ = some (.int .i64 s) := (hc16.cell (p := ⟨w5.heap.size, 0, none⟩) (show w5.heap.size < w15.heap.size by omega) (by first | (left; show w5.heap.size < _; omega) | (right; show _ ≤ w5.heap.size; omega) | (left; simp; done) | (left; simp; omega) | (right; simp; omega))).trans q15_6
      have q16_7 : w16.cell? ⟨w5.heap.size, 1, none⟩ = some (.slice ad4 gs.length cd4) := (hc16.cell (p := ⟨w5.heap.size, 1, none⟩) (show w5.heap.size < w15.heap.size by omega) (by first | (left; show w5.heap.size < _; omega) | (right; show _ ≤ w5.heap.size; omega) | (left; simp; done) | (left; simp; omega) | (right; simp; omega))).trans q15_7
      have q16_8 : w16.cell? ⟨w5.heap.size, 2, none⟩ = some (.slice ak4 ps.length ck4) := (hc16.cell (p := ⟨w5.heap.size, 2, none⟩) (show w5.heap.size < w15.heap.size by omega) (by first | (left; show w5.heap.size < _; omega) | (right; show _ ≤ w5.heap.size; omega) | (left; simp; done) | (left; simp; omega) | (right; simp; omega))).trans q15_8
      have q16_9 : w16.cell? ⟨w7.heap.size, 0, none⟩ = some (.int .i64 R.size) := (hc16.cell (p := ⟨w7.heap.size, 0, none⟩) (show w7.heap.size < w15.heap.size by omega) (by first | (left; show w7.heap.size < _; omega) | (right; show _ ≤ w7.heap.size; omega) | (left; simp; done) | (left; simp; omega) | (right; simp; omega))).trans q15_9
      have q16_10 : w16.cell? ⟨w7.heap.size, 1, none⟩ = some (.slice adg R.doors.length cdg) := (hc16.cell (p := ⟨w7.heap.size, 1, none⟩) (show w7.heap.size < w15.heap.size by omega) (by first | (left; show w7.heap.size < _; omega) | (right; show _ ≤ w7.heap.size; omega) | (left; simp; done) | (left; simp; omega) | (right; simp; omega))).trans q15_10
      have q16_11 : w16.cell? ⟨w7.heap.size, 2, none⟩ = some (.slice akg R.keys.length ckg) := (hc16.cell (p := ⟨w7.heap.size, 2, none⟩) (show w7.heap.size < w15.heap.size by omega) (by first | (left; show w7.heap.size < _; omega) | (right; show _ ≤ w7.heap.size; omega) | (left; simp; done) | (left; simp; omega) | (right; simp; omega))).trans q15_11
      have B0_16 : Hid (Below w.heap.size w w16) := (Below.trans B0_15.out (hc16.below (by first | omega | (simp; done) | (simp; omega) | (dsimp only; omega)) (by first | omega | (simp; done) | (simp; omega) | (dsimp only; omega))))
      have B4_16 : Hid (Below w4.heap.size w4 w16) := (Below.trans B4_15.out (hc16.below (by first | omega | (simp; done) | (simp; omega) | (dsimp only; omega)) (by first | omega | (simp; done) | (simp; omega) | (dsimp only; omega))))
      go_wp2_with fail
      refine (heldMaze_c _ R _ _ HM.out (by omega) (by omega)).mono ?_
      rintro e w17 ⟨rfl, hb17⟩
      have z17 : w16.heap.size ≤ w17.heap.size := by have := hb17.size; (try simp at this); omega
      have q17_0 : w17.cell? ⟨w.heap.size, 0, none⟩ = some (.int .i64 s) := by rw [hb17.cell (p := ⟨w.heap.size, 0, none⟩) (by first | omega | (simp; done) | (simp; omega) | (dsimp only; omega))]; first | exact q16_0 | (rw [World.cell?_alloc_past _ _ _ (by omega)]; exact q16_0) | (simp [go_sem]; done)
      have q17_1 : w17.cell? ⟨w.heap.size, 1, none⟩ = some (.slice ad gs.length cd) := by rw [hb17.cell (p := ⟨w.heap.size, 1, none⟩) (by first | omega | (simp; done) | (simp; omega) | (dsimp only; omega))]; first | exact q16_1 | (rw [World.cell?_alloc_past _ _ _ (by omega)]; exact q16_1) | (simp [go_sem]; done)
      have q17_2 : w17.cell? ⟨w.heap.size, 2, none⟩ = some (.slice ak ps.length ck) := by rw [hb17.cell (p := ⟨w.heap.size, 2, none⟩) (by first | omega | (simp; done) | (simp; omega) | (dsimp only; omega))]; first | exact q16_2 | (rw [World.cell?_alloc_past _ _ _ (by omega)]; exact q16_2) | (simp [go_sem]; done)
      have q17_3 : w17.cell? ⟨w4.heap.size, 0, none⟩ = some (.int .i64 R.size) := by rw [hb17.cell (p := ⟨w4.heap.size, 0, none⟩) (by first | omega | (simp; done) | (simp; omega) | (dsimp only; omega))]; first | exact q16_3 | (rw [World.cell?_alloc_past _ _ _ (by omega)]; exact q16_3) | (simp [go_sem]; done)
      have q17_4 : w17.cell? ⟨w4.heap.size, 1, none⟩ = some (.slice adw R.doors.length cdw) := by rw [hb17.cell (p := ⟨w4.heap.size, 1, none⟩) (by first | omega | (simp; done) | (simp; omega) | (dsimp only; omega))]; first | exact q16_4 | (rw [World.cell?_alloc_past _ _ _ (by omega)]; exact q16_4) | (simp [go_sem]; done)
      have q17_5 : w17.cell? ⟨w4.heap.size, 2, none⟩ = some (.slice akw R.keys.length ckw) := by rw [hb17.cell (p := ⟨w4.heap.size, 2, none⟩) (by first | omega | (simp; done) | (simp; omega) | (dsimp only; omega))]; first | exact q16_5 | (rw [World.cell?_alloc_past _ _ _ (by omega)]; exact q16_5) | (simp [go_sem]; done)
      have q17_6 : w17.cell? ⟨w5.heap.size, 0, none⟩ = some (.int .i64 s) := by rw [hb17.cell (p := ⟨w5.heap.size, 0, none⟩) (by first | omega | (simp; done) | (simp; omega) | (dsimp only; omega))]; first | exact q16_6 | (rw [World.cell?_alloc_past _ _ _ (by omega)]; exact q16_6) | (simp [go_sem]; done)
      have q17_7 : w17.cell? ⟨w5.heap.size, 1, none⟩ = some (.slice ad4 gs.length cd4) := by rw [hb17.cell (p := ⟨w5.heap.size, 1, none⟩) (by first | omega | (simp; done) | (simp; omega) | (dsimp only; omega))]; first | exact q16_7 | (rw [World.cell?_alloc_past _ _ _ (by omega)]; exact q16_7) | (simp [go_sem]; done)
      have q17_8 : w17.cell? ⟨w5.heap.size, 2, none⟩ = some (.slice ak4 ps.length ck4) := by rw [hb17.cell (p := ⟨w5.heap.size, 2, none⟩) (by first | omega | (simp; done) | (simp; omega) | (dsimp only; omega))]; first | exact q16_8 | (rw [World.cell?_alloc_past _ _ _ (by omega)]; exact q16_8) | (simp [go_sem]; done)
      have q17_9 : w17.cell? ⟨w7.heap.size, 0, none⟩ = some (.int .i64 R.size) := by rw [hb17.cell (p := ⟨w7.heap.size, 0, none⟩) (by first | omega | (simp; done) | (simp; omega) | (dsimp only; omega))]; first | exact q16_9 | (rw [World.cell?_alloc_past _ _ _ (by omega)]; exact q16_9) | (simp [go_sem]; done)
      have q17_10 : w17.cell? ⟨w7.heap.size, 1, none⟩ = some (.slice adg R.doors.length cdg) := by rw [hb17.cell (p := ⟨w7.heap.size, 1, none⟩) (by first | omega | (simp; done) | (simp; omega) | (dsimp only; omega))]; first | exact q16_10 | (rw [World.cell?_alloc_past _ _ _ (by omega)]; exact q16_10) | (simp [go_sem]; done)
      have q17_11 : w17.cell? ⟨w7.heap.size, 2, none⟩ = some (.slice akg R.keys.length ckg) := by rw [hb17.cell (p := ⟨w7.heap.size, 2, none⟩) (by first | omega | (simp; done) | (simp; omega) | (dsimp only; omega))]; first | exact q16_11 | (rw [World.cell?_alloc_past _ _ _ (by omega)]; exact q16_11) | (simp [go_sem]; done)
      have B0_17 : Hid (Below w.heap.size w w17) := (below_then B0_16.out hb17)
      have B4_17 : Hid (Below w4.heap.size w4 w17) := (below_then B4_16.out hb17)
      have B16_17 : Hid (Below w16.heap.size w16 w17) := (below_then (Below.refl _ _) hb17)
      go_wp2_with fail
      refine (toMaze_c _ _ _ (hm.later B0_17.out)).mono ?_
      rintro e w18 ⟨u18, rfl, ho18, hb18⟩
      have z18 : w17.heap.size ≤ w18.heap.size := by have := hb18.size; (try simp at this); omega
      have q18_0 : w18.cell? ⟨w.heap.size, 0, none⟩ = some (.int .i64 s) := by rw [hb18.cell (p := ⟨w.heap.size, 0, none⟩) (by first | omega | (simp; done) | (simp; omega) | (dsimp only; omega))]; first | exact q17_0 | (rw [World.cell?_alloc_past _ _ _ (by omega)]; exact q17_0) | (simp [go_sem]; done)
      have q18_1 : w18.cell? ⟨w.heap.size, 1, none⟩ = some (.slice ad gs.length cd) := by rw [hb18.cell (p := ⟨w.heap.size, 1, none⟩) (by first | omega | (simp; done) | (simp; omega) | (dsimp only; omega))]; first | exact q17_1 | (rw [World.cell?_alloc_past _ _ _ (by omega)]; exact q17_1) | (simp [go_sem]; done)
      have q18_2 : w18.cell? ⟨w.heap.size, 2, none⟩ = some (.slice ak ps.length ck) := by rw [hb18.cell (p := ⟨w.heap.size, 2, none⟩) (by first | omega | (simp; done) | (simp; omega) | (dsimp only; omega))]; first | exact q17_2 | (rw [World.cell?_alloc_past _ _ _ (by omega)]; exact q17_2) | (simp [go_sem]; done)
      have q18_3 : w18.cell? ⟨w4.heap.size, 0, none⟩ = some (.int .i64 R.size) := by rw [hb18.cell (p := ⟨w4.heap.size, 0, none⟩) (by first | omega | (simp; done) | (simp; omega) | (dsimp only; omega))]; first | exact q17_3 | (rw [World.cell?_alloc_past _ _ _ (by omega)]; exact q17_3) | (simp [go_sem]; done)
      have q18_4 : w18.cell? ⟨w4.heap.size, 1, none⟩ = some (.slice adw R.doors.length cdw) := by rw [hb18.cell (p := ⟨w4.heap.size, 1, none⟩) (by first | omega | (simp; done) | (simp; omega) | (dsimp only; omega))]; first | exact q17_4 | (rw [World.cell?_alloc_past _ _ _ (by omega)]; exact q17_4) | (simp [go_sem]; done)
      have q18_5 : w18.cell? ⟨w4.heap.size, 2, none⟩ = some (.slice akw R.keys.length ckw) := by rw [hb18.cell (p := ⟨w4.heap.size, 2, none⟩) (by first | omega | (simp; done) | (simp; omega) | (dsimp only; omega))]; first | exact q17_5 | (rw [World.cell?_alloc_past _ _ _ (by omega)]; exact q17_5) | (simp [go_sem]; done)
      have q18_6 : w18.cell? ⟨w5.heap.size, 0, none⟩ = some (.int .i64 s) := by rw [hb18.cell (p := ⟨w5.heap.size, 0, none⟩) (by first | omega | (simp; done) | (simp; omega) | (dsimp only; omega))]; first | exact q17_6 | (rw [World.cell?_alloc_past _ _ _ (by omega)]; exact q17_6) | (simp [go_sem]; done)
      have q18_7 : w18.cell? ⟨w5.heap.size, 1, none⟩ = some (.slice ad4 gs.length cd4) := by rw [hb18.cell (p := ⟨w5.heap.size, 1, none⟩) (by first | omega | (simp; done) | (simp; omega) | (dsimp only; omega))]; first | exact q17_7 | (rw [World.cell?_alloc_past _ _ _ (by omega)]; exact q17_7) | (simp [go_sem]; done)
      have q18_8 : w18.cell? ⟨w5.heap.size, 2, none⟩ = some (.slice ak4 ps.length ck4) := by rw [hb18.cell (p := ⟨w5.heap.size, 2, none⟩) (by first | omega | (simp; done) | (simp; omega) | (dsimp only; omega))]; first | exact q17_8 | (rw [World.cell?_alloc_past _ _ _ (by omega)]; exact q17_8) | (simp [go_sem]; done)
      have q18_9 : w18.cell? ⟨w7.heap.size, 0, none⟩ = some (.int .i64 R.size) := by rw [hb18.cell (p := ⟨w7.heap.size, 0, none⟩) (by first | omega | (simp; done) | (simp; omega) | (dsimp only; omega))]; first | exact q17_9 | (rw [World.cell?_alloc_past _ _ _ (by omega)]; exact q17_9) | (simp [go_sem]; done)
      have q18_10 : w18.cell? ⟨w7.heap.size, 1, none⟩ = some (.slice adg R.doors.length cdg) := by rw [hb18.cell (p := ⟨w7.heap.size, 1, none⟩) (by first | omega | (simp; done) | (simp; omega) | (dsimp only; omega))]; first | exact q17_10 | (rw [World.cell?_alloc_past _ _ _ (by omega)]; exact q17_10) | (simp [go_sem]; done)
      have q18_11 : w18.cell? ⟨w7.heap.size, 2, none⟩ = some (.slice akg R.keys.length ckg) := by rw [hb18.cell (p := ⟨w7.heap.size, 2, none⟩) (by first | omega | (simp; done) | (simp; omega) | (dsimp only; omega))]; first | exact q17_11 | (rw [World.cell?_alloc_past _ _ _ (by omega)]; exact q17_11) | (simp [go_sem]; done)
      have B0_18 : Hid (Below w.heap.size w w18) := (below_then B0_17.out hb18)
      have B4_18 : Hid (Below w4.heap.size w4 w18) := (below_then B4_17.out hb18)
      have B16_18 : Hid (Below w16.heap.size w16 w18) := (below_then B16_17.out hb18)
      have HO18 := Lib.hid ho18; clear ho18
      go_wp2_with fail
      refine (toIntS_c _ _ _ _ (hs2.later B0_18.out) g2).mono ?_
      rintro e w19 ⟨v19, rfl, ho19, hb19⟩
      have z19 : w18.heap.size ≤ w19.heap.size := by have := hb19.size; (try simp at this); omega
      have q19_0 : w19.cell? ⟨w.heap.size, 0, none⟩ = some (.int .i64 s) := by rw [hb19.cell (p := ⟨w.heap.size, 0, none⟩) (by first | omega | (simp; done) | (simp; omega) | (dsimp only; omega))]; first | exact q18_0 | (rw [World.cell?_alloc_past _ _ _ (by omega)]; exact q18_0) | (simp [go_sem]; done)
      have q19_1 : w19.cell? ⟨w.heap.size, 1, none⟩ = some (.slice ad gs.length cd) := by rw [hb19.cell (p := ⟨w.heap.size, 1, none⟩) (by first | omega | (simp; done) | (simp; omega) | (dsimp only; omega))]; first | exact q18_1 | (rw [World.cell?_alloc_past _ _ _ (by omega)]; exact q18_1) | (simp [go_sem]; done)
      have q19_2 : w19.cell? ⟨w.heap.size, 2, none⟩ = some (.slice ak ps.length ck) := by rw [hb19.cell (p := ⟨w.heap.size, 2, none⟩) (by first | omega | (simp; done) | (simp; omega) | (dsimp only; omega))]; first | exact q18_2 | (rw [World.cell?_alloc_past _ _ _ (by omega)]; exact q18_2) | (simp [go_sem]; done)
      have q19_3 : w19.cell? ⟨w4.heap.size, 0, none⟩ = some (.int .i64 R.size) := by rw [hb19.cell (p := ⟨w4.heap.size, 0, none⟩) (by first | omega | (simp; done) | (simp; omega) | (dsimp only; omega))]; first | exact q18_3 | (rw [World.cell?_alloc_past _ _ _ (by omega)]; exact q18_3) | (simp [go_sem]; done)
      have q19_4 : w19.cell? ⟨w4.heap.size, 1, none⟩ = some (.slice adw R.doors.length cdw) := by rw [hb19.cell (p := ⟨w4.heap.size, 1, none⟩) (by first | omega | (simp; done) | (simp; omega) | (dsimp only; omega))]; first | exact q18_4 | (rw [World.cell?_alloc_past _ _ _ (by omega)]; exact q18_4) | (simp [go_sem]; done)
      have q19_5 : w19.cell? ⟨w4.heap.size, 2, none⟩ = some (.slice akw R.keys.length ckw) := by rw [hb19.cell (p := ⟨w4.heap.size, 2, none⟩) (by first | omega | (simp; done) | (simp; omega) | (dsimp only; omega))]; first | exact q18_5 | (rw [World.cell?_alloc_past _ _ _ (by omega)]; exact q18_5) | (simp [go_sem]; done)
      have q19_6 : w19.cell? ⟨w5.heap.size, 0, none⟩ = some (.int .i64 s) := by rw [hb19.cell (p := ⟨w5.heap.size, 0, none⟩) (by first | omega | (simp; done) | (simp; omega) | (dsimp only; omega))]; first | exact q18_6 | (rw [World.cell?_alloc_past _ _ _ (by omega)]; exact q18_6) | (simp [go_sem]; done)
      have q19_7 : w19.cell? ⟨w5.heap.size, 1, none⟩ = some (.slice ad4 gs.length cd4) := by rw [hb19.cell (p := ⟨w5.heap.size, 1, none⟩) (by first | omega | (simp; done) | (simp; omega) | (dsimp only; omega))]; first | exact q18_7 | (rw [World.cell?_alloc_past _ _ _ (by omega)]; exact q18_7) | (simp [go_sem]; done)
      have q19_8 : w19.cell? ⟨w5.heap.size, 2, none⟩ = some (.slice ak4 ps.length ck4) := by rw [hb19.cell (p := ⟨w5.heap.size, 2, none⟩) (by first | omega | (simp; done) | (simp; omega) | (dsimp only; omega))]; first | exact q18_8 | (rw [World.cell?_alloc_past _ _ _ (by omega)]; exact q18_8) | (simp [go_sem]; done)
      have q19_9 : w19.cell? ⟨w7.heap.size, 0, none⟩ = some (.int .i64 R.size) := by rw [hb19.cell (p := ⟨w7.heap.size, 0, none⟩) (by first | omega | (simp; done) | (simp; omega) | (dsimp only; omega))]; first | exact q18_9 | (rw [World.cell?_alloc_past _ _ _ (by omega)]; exact q18_9) | (simp [go_sem]; done)
      have q19_10 : w19.cell? ⟨w7.heap.size, 1, none⟩ = some (.slice adg R.doors.length cdg) := by rw [hb19.cell (p := ⟨w7.heap.size, 1, none⟩) (by first | omega | (simp; done) | (simp; omega) | (dsimp only; omega))]; first | exact q18_10 | (rw [World.cell?_alloc_past _ _ _ (by omega)]; exact q18_10) | (simp [go_sem]; done)
      have q19_11 : w19.cell? ⟨w7.heap.size, 2, none⟩ = some (.slice akg R.keys.length ckg) := by rw [hb19.cell (p := ⟨w7.heap.size, 2, none⟩) (by first | omega | (simp; done) | (simp; omega) | (dsimp only; omega))]; first | exact q18_11 | (rw [World.cell?_alloc_past _ _ _ (by omega)]; exact q18_11) | (simp [go_sem]; done)
      have B0_19 : Hid (Below w.heap.size w w19) := (below_then B0_18.out hb19)
      have B4_19 : Hid (Below w4.heap.size w4 w19) := (below_then B4_18.out hb19)
      have B16_19 : Hid (Below w16.heap.size w16 w19) := (below_then B16_18.out hb19)
      have B18_19 : Hid (Below w18.heap.size w18 w19) := (below_then (Below.refl _ _) hb19)
      have HO19 := Lib.hid (Own.of ho19); clear ho19
      obtain ⟨a19, c19, rfl, -, hi19⟩ := HO19.out.ic
      clear hi19
      go_wp2_with fail
      refine (implLayKeys_c _ ⟨s, gs, ps⟩ _ _ _ ls2 _ R b HP.out ((HO18.out.mz n1 n2).later B18_19.out) wi1 (ic_of (HO19.out.later (Below.refl _ _) (by first | exact Nat.le_refl _ | omega | (simp; done) | (simp; omega)))) g2 ws2).mono ?_
      rintro e w20 ⟨vh, rfl, hoh, hb20⟩
      have z20 : w19.heap.size ≤ w20.heap.size := by have := hb20.size; (try simp at this); omega
      have q20_0 : w20.cell? ⟨w.heap.size, 0, none⟩ = some (.int .i64 s) := by rw [hb20.cell (p := ⟨w.heap.size, 0, none⟩) (by first | omega | (simp; done) | (simp; omega) | (dsimp only; omega))]; first | exact q19_0 | (rw [World.cell?_alloc_past _ _ _ (by omega)]; exact q19_0) | (simp [go_sem]; done)
      have q20_1 : w20.cell? ⟨w.heap.size, 1, none⟩ = some (.slice ad gs.length cd) := by rw [hb20.cell (p := ⟨w.heap.size, 1, none⟩) (by first | omega | (simp; done) | (simp; omega) | (dsimp only; omega))]; first | exact q19_1 | (rw [World.cell?_alloc_past _ _ _ (by omega)]; exact q19_1) | (simp [go_sem]; done)
      have q20_2 : w20.cell? ⟨w.heap.size, 2, none⟩ = some (.slice ak ps.length ck) := by rw [hb20.cell (p := ⟨w.heap.size, 2, none⟩) (by first | omega | (simp; done) | (simp; omega) | (dsimp only; omega))]; first | exact q19_2 | (rw [World.cell?_alloc_past _ _ _ (by omega)]; exact q19_2) | (simp [go_sem]; done)
      have q20_3 : w20.cell? ⟨w4.heap.size, 0, none⟩ = some (.int .i64 R.size) := by rw [hb20.cell (p := ⟨w4.heap.size, 0, none⟩) (by first | omega | (simp; done) | (simp; omega) | (dsimp only; omega))]; first | exact q19_3 | (rw [World.cell?_alloc_past _ _ _ (by omega)]; exact q19_3) | (simp [go_sem]; done)
      have q20_4 : w20.cell? ⟨w4.heap.size, 1, none⟩ = some (.slice adw R.doors.length cdw) := by rw [hb20.cell (p := ⟨w4.heap.size, 1, none⟩) (by first | omega | (simp; done) | (simp; omega) | (dsimp only; omega))]; first | exact q19_4 | (rw [World.cell?_alloc_past _ _ _ (by omega)]; exact q19_4) | (simp [go_sem]; done)
      have q20_5 : w20.cell? ⟨w4.heap.size, 2, none⟩ = some (.slice akw R.keys.length ckw) := by rw [hb20.cell (p := ⟨w4.heap.size, 2, none⟩) (by first | omega | (simp; done) | (simp; omega) | (dsimp only; omega))]; first | exact q19_5 | (rw [World.cell?_alloc_past _ _ _ (by omega)]; exact q19_5) | (simp [go_sem]; done)
      have q20_6 : w20.cell? ⟨w5.heap.size, 0, none⟩ = some (.int .i64 s) := by rw [hb20.cell (p := ⟨w5.heap.size, 0, none⟩) (by first | omega | (simp; done) | (simp; omega) | (dsimp only; omega))]; first | exact q19_6 | (rw [World.cell?_alloc_past _ _ _ (by omega)]; exact q19_6) | (simp [go_sem]; done)
      have q20_7 : w20.cell? ⟨w5.heap.size, 1, none⟩ = some (.slice ad4 gs.length cd4) := by rw [hb20.cell (p := ⟨w5.heap.size, 1, none⟩) (by first | omega | (simp; done) | (simp; omega) | (dsimp only; omega))]; first | exact q19_7 | (rw [World.cell?_alloc_past _ _ _ (by omega)]; exact q19_7) | (simp [go_sem]; done)
      have q20_8 : w20.cell? ⟨w5.heap.size, 2, none⟩ = some (.slice ak4 ps.length ck4) := by rw [hb20.cell (p := ⟨w5.heap.size, 2, none⟩) (by first | omega | (simp; done) | (simp; omega) | (dsimp only; omega))]; first | exact q19_8 | (rw [World.cell?_alloc_past _ _ _ (by omega)]; exact q19_8) | (simp [go_sem]; done)
      have q20_9 : w20.cell? ⟨w7.heap.size, 0, none⟩ = some (.int .i64 R.size) := by rw [hb20.cell (p := ⟨w7.heap.size, 0, none⟩) (by first | omega | (simp; done) | (simp; omega) | (dsimp only; omega))]; first | exact q19_9 | (rw [World.cell?_alloc_past _ _ _ (by omega)]; exact q19_9) | (simp [go_sem]; done)
      have q20_10 : w20.cell? ⟨w7.heap.size, 1, none⟩ = some (.slice adg R.doors.length cdg) := by rw [hb20.cell (p := ⟨w7.heap.size, 1, none⟩) (by first | omega | (simp; done) | (simp; omega) | (dsimp only; omega))]; first | exact q19_10 | (rw [World.cell?_alloc_past _ _ _ (by omega)]; exact q19_10) | (simp [go_sem]; done)
      have q20_11 : w20.cell? ⟨w7.heap.size, 2, none⟩ = some (.slice akg R.keys.length ckg) := by rw [hb20.cell (p := ⟨w7.heap.size, 2, none⟩) (by first | omega | (simp; done) | (simp; omega) | (dsimp only; omega))]; first | exact q19_11 | (rw [World.cell?_alloc_past _ _ _ (by omega)]; exact q19_11) | (simp [go_sem]; done)
      have B0_20 : Hid (Below w.heap.size w w20) := (below_then B0_19.out hb20)
      have B4_20 : Hid (Below w4.heap.size w4 w20) := (below_then B4_19.out hb20)
      have B16_20 : Hid (Below w16.heap.size w16 w20) := (below_then B16_19.out hb20)
      have B18_20 : Hid (Below w18.heap.size w18 w20) := (below_then B18_19.out hb20)
      have B19_20 : Hid (Below w19.heap.size w19 w20) := (below_then (Below.refl _ _) hb20)
      have HH := Lib.hid hoh; clear hoh
      obtain ⟨eh3, eh1, vdh, vkh, huh, oh3, oh1, haph⟩ := HH.out
      obtain ⟨adh, cdh, rfl⟩ := oh3.slice
      obtain ⟨akh, ckh, rfl⟩ := oh1.slice
      subst huh
      clear oh3 oh1 haph
      have a20_0 := (World.cell?_alloc_lt w20 (.cells #[.int .i64 R.size, .slice adh R.doors.length cdh, .slice akh R.keys.length ckh] 29) ⟨w.heap.size, 0, none⟩ (show w.heap.size < w20.heap.size by omega)).trans q20_0
      have a20_1 := (World.cell?_alloc_lt w20 (.cells #[.int .i64 R.size, .slice adh R.doors.length cdh, .slice akh R.keys.length ckh] 29) ⟨w.heap.size, 1, none⟩ (show w.heap.size < w20.heap.size by omega)).trans q20_1
      have a20_2 := (World.cell?_alloc_lt w20 (.cells #[.int .i64 R.size, .slice adh R.doors.length cdh, .slice akh R.keys.length ckh] 29) ⟨w.heap.size, 2, none⟩ (show w.heap.size < w20.heap.size by omega)).trans q20_2
      have a20_3 := (World.cell?_alloc_lt w20 (.cells #[.int .i64 R.size, .slice adh R.doors.length cdh, .slice akh R.keys.length ckh] 29) ⟨w4.heap.size, 0, none⟩ (show w4.heap.size < w20.heap.size by omega)).trans q20_3
      have a20_4 := (World.cell?_alloc_lt w20 (.cells #[.int .i64 R.size, .slice adh R.doors.length cdh, .slice akh R.keys.length ckh] 29) ⟨w4.heap.size, 1, none⟩ (show w4.heap.size < w20.heap.size by omega)).trans q20_4
      have a20_5 := (World.cell?_alloc_lt w20 (.cells #[.int .i64 R.size, .slice adh R.doors.length cdh, .slice akh R.keys.length ckh] 29) ⟨w4.heap.size, 2, none⟩ (show w4.heap.size < w20.heap.size by omega)).trans q20_5
      have a20_6 := (World.cell?_alloc_lt w20 (.cells #[.int .i64 R.size, .slice adh R.doors.length cdh, .slice akh R.keys.length ckh] 29) ⟨w5.heap.size, 0, none⟩ (show w5.heap.size < w20.heap.size by omega)).trans q20_6
      have a20_7 := (World.cell?_alloc_lt w20 (.cells #[.int .i64 R.size, .slice adh R.doors.length cdh, .slice akh R.keys.length ckh] 29) ⟨w5.heap.size, 1, none⟩ (show w5.heap.size < w20.heap.size by omega)).trans q20_7
      have a20_8 := (World.cell?_alloc_lt w20 (.cells #[.int .i64 R.size, .slice adh R.doors.length cdh, .slice akh R.keys.length ckh] 29) ⟨w5.heap.size, 2, none⟩ (show w5.heap.size < w20.heap.size by omega)).trans q20_8
      have a20_9 := (World.cell?_alloc_lt w20 (.cells #[.int .i64 R.size, .slice adh R.doors.length cdh, .slice akh R.keys.length ckh] 29) ⟨w7.heap.size, 0, none⟩ (show w7.heap.size < w20.heap.size by omega)).trans q20_9
      have a20_10 := (World.cell?_alloc_lt w20 (.cells #[.int .i64 R.size, .slice adh R.doors.length cdh, .slice akh R.keys.length ckh] 29) ⟨w7.heap.size, 1, none⟩ (show w7.heap.size < w20.heap.size by omega)).trans q20_10
      have a20_11 := (World.cell?_alloc_lt w20 (.cells #[.int .i64 R.size, .slice adh R.doors.length cdh, .slice akh R.keys.length ckh] 29) ⟨w7.heap.size, 2, none⟩ (show w7.heap.size < w20.heap.size by omega)).trans q20_11
      go_wp2_with fail
      refine (eqMaze_c _ _ R R _ ((HH.out.mz (by omega) (by omega)).later (Below.alloc (Below.refl _ _) (by first | omega | (simp; done) | (simp; omega) | (dsimp only; omega)) _)) (HW.out.later (Below.alloc B4_20.out (by first | omega | (simp; done) | (simp; omega) | (dsimp only; omega)) _))).mono ?_
      rintro e w21 ⟨rfl, hb21⟩
      have z21 : w20.heap.size + 1 ≤ w21.heap.size := by have := hb21.size; (try simp at this); omega
      have q21_0 : w21.cell? ⟨w.heap.size, 0, none⟩ = some (.int .i64 s) := by rw [hb21.cell (p := ⟨w.heap.size, 0, none⟩) (by first | omega | (simp; done) | (simp; omega) | (dsimp only; omega))]; first | exact q20_0 | (rw [World.cell?_alloc_past _ _ _ (by omega)]; exact q20_0) | (simp [go_sem]; done)
      have q21_1 : w21.cell? ⟨w.heap.size, 1, none⟩ = some (.slice ad gs.length cd) := by rw [hb21.cell (p := ⟨w.heap.size, 1, none⟩) (by first | omega | (simp; done) | (simp; omega) | (dsimp only; omega))]; first | exact q20_1 | (rw [World.cell?_alloc_past _ _ _ (by omega)]; exact q20_1) | (simp [go_sem]; done)
      have q21_2 : w21.cell? ⟨w.heap.size, 2, none⟩ = some (.slice ak ps.length ck) := by rw [hb21.cell (p := ⟨w.heap.size, 2, none⟩) (by first | omega | (simp; done) | (simp; omega) | (dsimp only; omega))]; first | exact q20_2 | (rw [World.cell?_alloc_past _ _ _ (by omega)]; exact q20_2) | (simp [go_sem]; done)
      have q21_3 : w21.cell? ⟨w4.heap.size, 0, none⟩ = some (.int .i64 R.size) := by rw [hb21.cell (p := ⟨w4.heap.size, 0, none⟩) (by first | omega | (simp; done) | (simp; omega) | (dsimp only; omega))]; first | exact q20_3 | (rw [World.cell?_alloc_past _ _ _ (by omega)]; exact q20_3) | (simp [go_sem]; done)
      have q21_4 : w21.cell? ⟨w4.heap.size, 1, none⟩ = some (.slice adw R.doors.length cdw) := by rw [hb21.cell (p := ⟨w4.heap.size, 1, none⟩) (by first | omega | (simp; done) | (simp; omega) | (dsimp only; omega))]; first | exact q20_4 | (rw [World.cell?_alloc_past _ _ _ (by omega)]; exact q20_4) | (simp [go_sem]; done)
      have q21_5 : w21.cell? ⟨w4.heap.size, 2, none⟩ = some (.slice akw R.keys.length ckw) := by rw [hb21.cell (p := ⟨w4.heap.size, 2, none⟩) (by first | omega | (simp; done) | (simp; omega) | (dsimp only; omega))]; first | exact q20_5 | (rw [World.cell?_alloc_past _ _ _ (by omega)]; exact q20_5) | (simp [go_sem]; done)
      have q21_6 : w21.cell? ⟨w5.heap.size, 0, none⟩ = some (.int .i64 s) := by rw [hb21.cell (p := ⟨w5.heap.size, 0, none⟩) (by first | omega | (simp; done) | (simp; omega) | (dsimp only; omega))]; first | exact q20_6 | (rw [World.cell?_alloc_past _ _ _ (by omega)]; exact q20_6) | (simp [go_sem]; done)
      have q21_7 : w21.cell? ⟨w5.heap.size, 1, none⟩ = some (.slice ad4 gs.length cd4) := by rw [hb21.cell (p := ⟨w5.heap.size, 1, none⟩) (by first | omega | (simp; done) | (simp; omega) | (dsimp only; omega))]; first | exact q20_7 | (rw [World.cell?_alloc_past _ _ _ (by omega)]; exact q20_7) | (simp [go_sem]; done)
      have q21_8 : w21.cell? ⟨w5.heap.size, 2, none⟩ = some (.slice ak4 ps.length ck4) := by rw [hb21.cell (p := ⟨w5.heap.size, 2, none⟩) (by first | omega | (simp; done) | (simp; omega) | (dsimp only; omega))]; first | exact q20_8 | (rw [World.cell?_alloc_past _ _ _ (by omega)]; exact q20_8) | (simp [go_sem]; done)
      have q21_9 : w21.cell? ⟨w7.heap.size, 0, none⟩ = some (.int .i64 R.size) := by rw [hb21.cell (p := ⟨w7.heap.size, 0, none⟩) (by first | omega | (simp; done) | (simp; omega) | (dsimp only; omega))]; first | exact q20_9 | (rw [World.cell?_alloc_past _ _ _ (by omega)]; exact q20_9) | (simp [go_sem]; done)
      have q21_10 : w21.cell? ⟨w7.heap.size, 1, none⟩ = some (.slice adg R.doors.length cdg) := by rw [hb21.cell (p := ⟨w7.heap.size, 1, none⟩) (by first | omega | (simp; done) | (simp; omega) | (dsimp only; omega))]; first | exact q20_10 | (rw [World.cell?_alloc_past _ _ _ (by omega)]; exact q20_10) | (simp [go_sem]; done)
      have q21_11 : w21.cell? ⟨w7.heap.size, 2, none⟩ = some (.slice akg R.keys.length ckg) := by rw [hb21.cell (p := ⟨w7.heap.size, 2, none⟩) (by first | omega | (simp; done) | (simp; omega) | (dsimp only; omega))]; first | exact q20_11 | (rw [World.cell?_alloc_past _ _ _ (by omega)]; exact q20_11) | (simp [go_sem]; done)
      have B0_21 : Hid (Below w.heap.size w w21) := (below_then (Below.alloc B0_20.out (by first | omega | (simp; done) | (simp; omega) | (dsimp only; omega)) _) hb21)
      have B4_21 : Hid (Below w4.heap.size w4 w21) := (below_then (Below.alloc B4_20.out (by first | omega | (simp; done) | (simp; omega) | (dsimp only; omega)) _) hb21)
      have B16_21 : Hid (Below w16.heap.size w16 w21) := (below_then (Below.alloc B16_20.out (by first | omega | (simp; done) | (simp; omega) | (dsimp only; omega)) _) hb21)
      go_wp2_with fail
      refine (heldMaze_c _ R _ _ (HM.out.later B16_21.out) (by omega) (by omega)).mono ?_
      rintro e w22 ⟨rfl, hb22⟩
      have z22 : w21.heap.size ≤ w22.heap.size := by have := hb22.size; (try simp at this); omega
      have q22_0 : w22.cell? ⟨w.heap.size, 0, none⟩ = some (.int .i64 s) := by rw [hb22.cell (p := ⟨w.heap.size, 0, none⟩) (by first | omega | (simp; done) | (simp; omega) | (dsimp only; omega))]; first | exact q21_0 | (rw [World.cell?_alloc_past _ _ _ (by omega)]; exact q21_0) | (simp [go_sem]; done)
      have q22_1 : w22.cell? ⟨w.heap.size, 1, none⟩ = some (.slice ad gs.length cd) := by rw [hb22.cell (p := ⟨w.heap.size, 1, none⟩) (by first | omega | (simp; done) | (simp; omega) | (dsimp only; omega))]; first | exact q21_1 | (rw [World.cell?_alloc_past _ _ _ (by omega)]; exact q21_1) | (simp [go_sem]; done)
      have q22_2 : w22.cell? ⟨w.heap.size, 2, none⟩ = some (.slice ak ps.length ck) := by rw [hb22.cell (p := ⟨w.heap.size, 2, none⟩) (by first | omega | (simp; done) | (simp; omega) | (dsimp only; omega))]; first | exact q21_2 | (rw [World.cell?_alloc_past _ _ _ (by omega)]; exact q21_2) | (simp [go_sem]; done)
      have q22_3 : w22.cell? ⟨w4.heap.size, 0, none⟩ = some (.int .i64 R.size) := by rw [hb22.cell (p := ⟨w4.heap.size, 0, none⟩) (by first | omega | (simp; done) | (simp; omega) | (dsimp only; omega))]; first | exact q21_3 | (rw [World.cell?_alloc_past _ _ _ (by omega)]; exact q21_3) | (simp [go_sem]; done)
      have q22_4 : w22.cell? ⟨w4.heap.size, 1, none⟩ = some (.slice adw R.doors.length cdw) := by rw [hb22.cell (p := ⟨w4.heap.size, 1, none⟩) (by first | omega | (simp; done) | (simp; omega) | (dsimp only; omega))]; first | exact q21_4 | (rw [World.cell?_alloc_past _ _ _ (by omega)]; exact q21_4) | (simp [go_sem]; done)
      have q22_5 : w22.cell? ⟨w4.heap.size, 2, none⟩ = some (.slice akw R.keys.length ckw) := by rw [hb22.cell (p := ⟨w4.heap.size, 2, none⟩) (by first | omega | (simp; done) | (simp; omega) | (dsimp only; omega))]; first | exact q21_5 | (rw [World.cell?_alloc_past _ _ _ (by omega)]; exact q21_5) | (simp [go_sem]; done)
      have q22_6 : w22.cell? ⟨w5.heap.size, 0, none⟩ = some (.int .i64 s) := by rw [hb22.cell (p := ⟨w5.heap.size, 0, none⟩) (by first | omega | (simp; done) | (simp; omega) | (dsimp only; omega))]; first | exact q21_6 | (rw [World.cell?_alloc_past _ _ _ (by omega)]; exact q21_6) | (simp [go_sem]; done)
      have q22_7 : w22.cell? ⟨w5.heap.size, 1, none⟩ = some (.slice ad4 gs.length cd4) := by rw [hb22.cell (p := ⟨w5.heap.size, 1, none⟩) (by first | omega | (simp; done) | (simp; omega) | (dsimp only; omega))]; first | exact q21_7 | (rw [World.cell?_alloc_past _ _ _ (by omega)]; exact q21_7) | (simp [go_sem]; done)
      have q22_8 : w22.cell? ⟨w5.heap.size, 2, none⟩ = some (.slice ak4 ps.length ck4) := by rw [hb22.cell (p := ⟨w5.heap.size, 2, none⟩) (by first | omega | (simp; done) | (simp; omega) | (dsimp only; omega))]; first | exact q21_8 | (rw [World.cell?_alloc_past _ _ _ (by omega)]; exact q21_8) | (simp [go_sem]; done)
      have q22_9 : w22.cell? ⟨w7.heap.size, 0, none⟩ = some (.int .i64 R.size) := by rw [hb22.cell (p := ⟨w7.heap.size, 0, none⟩) (by first | omega | (simp; done) | (simp; omega) | (dsimp only; omega))]; first | exact q21_9 | (rw [World.cell?_alloc_past _ _ _ (by omega)]; exact q21_9) | (simp [go_sem]; done)
      have q22_10 : w22.cell? ⟨w7.heap.size, 1, none⟩ = some (.slice adg R.doors.length cdg) := by rw [hb22.cell (p := ⟨w7.heap.size, 1, none⟩) (by first | omega | (simp; done) | (simp; omega) | (dsimp only; omega))]; first | exact q21_10 | (rw [World.cell?_alloc_past _ _ _ (by omega)]; exact q21_10) | (simp [go_sem]; done)
      have q22_11 : w22.cell? ⟨w7.heap.size, 2, none⟩ = some (.slice akg R.keys.length ckg) := by rw [hb22.cell (p := ⟨w7.heap.size, 2, none⟩) (by first | omega | (simp; done) | (simp; omega) | (dsimp only; omega))]; first | exact q21_11 | (rw [World.cell?_alloc_past _ _ _ (by omega)]; exact q21_11) | (simp [go_sem]; done)
      have B0_22 : Hid (Below w.heap.size w w22) := (below_then B0_21.out hb22)
      have B4_22 : Hid (Below w4.heap.size w4 w22) := (below_then B4_21.out hb22)
      have B16_22 : Hid (Below w16.heap.size w16 w22) := (below_then B16_21.out hb22)
      go_wp2_with fail
      go_ret
      exact ⟨rfl, B0_22.out⟩
end Go.Proofs.Ytbaahghfjmkeoaa
