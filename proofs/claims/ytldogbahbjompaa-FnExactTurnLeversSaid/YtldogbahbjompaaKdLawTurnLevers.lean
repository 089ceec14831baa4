/- The law FnExactTurnLevers, walked. -/
import Derived.Test.YtldogbahbjompaaKdChg
import Derived.Test.YtldogbahbjompaaKdOpen
import Derived.Test.YtldogbahbjompaaKdStruct
import Derived.Test.YtldogbahbjompaaKdChgW
import Derived.Test.YtldogbahbjompaaKdTurnE
import Derived.Deep.RegionHeld3
set_option linter.unusedVariables false
set_option linter.unusedSimpArgs false
namespace Go.Proofs.Ytldogbahbjompaa
open Go.RowKit Go.KD
attribute [local go_sem] later_cell later_frozen
set_option maxHeartbeats 16000000 in
theorem lawTurnLevers_c (ad ak : Option Addr) (cd ck : Nat) (m : Wk) (i1 : Int) (w : World) (hd : D4C w ad m.gates) (hk : IC w ak m.pulls) (nd : m.gates.length ≤ maxLen) (nk : m.pulls.length ≤ maxLen) (wi1 : wfI i1) :
    Calls Try.prog 7 #[.agg #[.int .i64 m.size, .slice ad m.gates.length cd, .slice ak m.pulls.length ck], .int .i64 i1] w fun e w' => e = .returned (.bool true) ∧ Below w.heap.size w w' := by
  obtain ⟨s, gs, ps⟩ := m
  dsimp only at *
  by_cases h0 : szMzP 1048576 gs.length ps.length < 0
  case pos =>
    have hd0 : decide (szMzP 1048576 gs.length ps.length < 0) = true := decide_eq_true h0
    clear h0
    go_enter Try.func7, Try.ntmps7
    go_wp2_with (go_at_call 20; refine (szWorks_c _ _ _ _ _ _ _ _ _ (by omega) (by omega) nd nk).mono ?_; rintro e w1 ⟨rfl, hb1⟩)
    go_ret
    exact ⟨rfl, below_then (by (repeat (first | exact Below.refl _ _ | apply Below.drew | apply below_drewN | (refine Below.setCell ?_ (by first | omega | (simp; done) | (simp; omega) | (dsimp only; omega)) _) | (refine Below.alloc ?_ (by first | omega | (simp; done) | (simp; omega) | (dsimp only; omega)) _)))) hb1⟩
  case neg =>
    have hd0 : decide (szMzP 1048576 gs.length ps.length < 0) = false := decide_eq_false h0
    obtain ⟨n1, n2⟩ := szMzP_le h0
    clear h0
    have hm : WkAt w (.agg #[.int .i64 s, .slice ad gs.length cd, .slice ak ps.length ck]) ⟨s, gs, ps⟩ := ⟨⟨ad, cd, ak, ck, rfl, hd, hk⟩, n1, n2⟩
    obtain ⟨R, b, hp⟩ : ∃ R b, pTurnLevers ⟨s, gs, ps⟩ i1 = (R, b) := ⟨_, _, rfl⟩
    obtain ⟨hR1, hR2⟩ : R.gates.length ≤ 100000 ∧ R.pulls.length ≤ 100000 := by have := pTurnLevers_len ⟨s, gs, ps⟩ i1; rw [hp] at this; exact this
    have hk1 : decide (1 + (R.gates.length : Int) * 4 + (R.pulls.length : Int) < 0) = false := by simp; omega
    have HP := Lib.hid hp; clear hp
    go_enter Try.func7, Try.ntmps7
    go_wp2_with fail
    refine (szWorks_c _ _ _ _ _ _ _ _ _ (by omega) (by omega) nd nk).mono ?_
    rintro e w1 ⟨rfl, hb1⟩
    have z1 : w.heap.size + 1 ≤ w1.heap.size := by have := hb1.size; (try simp at this); omega
    have q1_0 : w1.cell? ⟨w.heap.size, 0, none⟩ = some (.int .i64 s) := by rw [hb1.cell (p := ⟨w.heap.size, 0, none⟩) (by simp)]; simp [go_sem]
    have q1_1 : w1.cell? ⟨w.heap.size, 1, none⟩ = some (.slice ad gs.length cd) := by rw [hb1.cell (p := ⟨w.heap.size, 1, none⟩) (by simp)]; simp [go_sem]
    have q1_2 : w1.cell? ⟨w.heap.size, 2, none⟩ = some (.slice ak ps.length ck) := by rw [hb1.cell (p := ⟨w.heap.size, 2, none⟩) (by simp)]; simp [go_sem]
    have B0_1 : Hid (Below w.heap.size w w1) := below_then (by (repeat (first | exact Below.refl _ _ | apply Below.drew | apply below_drewN | (refine Below.setCell ?_ (by first | omega | (simp; done) | (simp; omega) | (dsimp only; omega)) _) | (refine Below.alloc ?_ (by first | omega | (simp; done) | (simp; omega) | (dsimp only; omega)) _)))) hb1
    go_wp2_with fail
    refine (toWorks_c _ _ _ (hm.later B0_1.out)).mono ?_
    rintro e w2 ⟨u2, rfl, ho2, hb2⟩
    have z2 : w1.heap.size ≤ w2.heap.size := by have := hb2.size; (try simp at this); omega
    have q2_0 : w2.cell? ⟨w.heap.size, 0, none⟩ = some (.int .i64 s) := by rw [hb2.cell (p := ⟨w.heap.size, 0, none⟩) (by first | omega | (simp; done) | (simp; omega) | (dsimp only; omega))]; first | exact q1_0 | (rw [World.cell?_alloc_past _ _ _ (by omega)]; exact q1_0) | (simp [go_sem]; done)
    have q2_1 : w2.cell? ⟨w.heap.size, 1, none⟩ = some (.slice ad gs.length cd) := by rw [hb2.cell (p := ⟨w.heap.size, 1, none⟩) (by first | omega | (simp; done) | (simp; omega) | (dsimp only; omega))]; first | exact q1_1 | (rw [World.cell?_alloc_past _ _ _ (by omega)]; exact q1_1) | (simp [go_sem]; done)
    have q2_2 : w2.cell? ⟨w.heap.size, 2, none⟩ = some (.slice ak ps.length ck) := by rw [hb2.cell (p := ⟨w.heap.size, 2, none⟩) (by first | omega | (simp; done) | (simp; omega) | (dsimp only; omega))]; first | exact q1_2 | (rw [World.cell?_alloc_past _ _ _ (by omega)]; exact q1_2) | (simp [go_sem]; done)
    have B0_2 : Hid (Below w.heap.size w w2) := (below_then B0_1.out hb2)
    have HO2 := Lib.hid ho2; clear ho2
    go_wp2_with fail
    refine (specTurnLevers_c _ ⟨s, gs, ps⟩ _ _ R b HP.out ((HO2.out.wk n1 n2).later (Below.refl _ _)) wi1).mono ?_
    rintro e w3 ⟨uw, rfl, hw, hb3⟩
    have z3 : w2.heap.size ≤ w3.heap.size := by have := hb3.size; (try simp at this); omega
    have q3_0 : w3.cell? ⟨w.heap.size, 0, none⟩ = some (.int .i64 s) := by rw [hb3.cell (p := ⟨w.heap.size, 0, none⟩) (by first | omega | (simp; done) | (simp; omega) | (dsimp only; omega))]; first | exact q2_0 | (rw [World.cell?_alloc_past _ _ _ (by omega)]; exact q2_0) | (simp [go_sem]; done)
    have q3_1 : w3.cell? ⟨w.heap.size, 1, none⟩ = some (.slice ad gs.length cd) := by rw [hb3.cell (p := ⟨w.heap.size, 1, none⟩) (by first | omega | (simp; done) | (simp; omega) | (dsimp only; omega))]; first | exact q2_1 | (rw [World.cell?_alloc_past _ _ _ (by omega)]; exact q2_1) | (simp [go_sem]; done)
    have q3_2 : w3.cell? ⟨w.heap.size, 2, none⟩ = some (.slice ak ps.length ck) := by rw [hb3.cell (p := ⟨w.heap.size, 2, none⟩) (by first | omega | (simp; done) | (simp; omega) | (dsimp only; omega))]; first | exact q2_2 | (rw [World.cell?_alloc_past _ _ _ (by omega)]; exact q2_2) | (simp [go_sem]; done)
    have B0_3 : Hid (Below w.heap.size w w3) := (below_then B0_2.out hb3)
    have B2_3 : Hid (Below w2.heap.size w2 w3) := (below_then (Below.refl _ _) hb3)
    obtain ⟨⟨adw, cdw, akw, ckw, rfl, hdw, hkw⟩, nw1, nw2⟩ := hw
    have HW : Hid (WkAt w3 (.agg #[.int .i64 R.size, .slice adw R.gates.length cdw, .slice akw R.pulls.length ckw]) R) := ⟨⟨adw, cdw, akw, ckw, rfl, hdw, hkw⟩, nw1, nw2⟩
    clear hdw hkw nw1 nw2
    have a3_0 := (World.cell?_alloc_lt w3 (.cells #[.int .i64 R.size, .slice adw R.gates.length cdw, .slice akw R.pulls.length ckw] 40) ⟨w.heap.size, 0, none⟩ (show w.heap.size < w3.heap.size by omega)).trans q3_0
    have a3_1 := (World.cell?_alloc_lt w3 (.cells #[.int .i64 R.size, .slice adw R.gates.length cdw, .slice akw R.pulls.length ckw] 40) ⟨w.heap.size, 1, none⟩ (show w.heap.size < w3.heap.size by omega)).trans q3_1
    have a3_2 := (World.cell?_alloc_lt w3 (.cells #[.int .i64 R.size, .slice adw R.gates.length cdw, .slice akw R.pulls.length ckw] 40) ⟨w.heap.size, 2, none⟩ (show w.heap.size < w3.heap.size by omega)).trans q3_2
    go_wp2_with fail
    have q3_3 : True := trivial
    have q3_4 : True := trivial
    have q3_5 : True := trivial
    refine (toWorks_c _ _ _ (hm.later (Below.alloc B0_3.out (by first | omega | (simp; done) | (simp; omega) | (dsimp only; omega)) _))).mono ?_
    rintro e w4 ⟨u4, rfl, ho4, hb4⟩
    have z4 : w3.heap.size + 1 ≤ w4.heap.size := by have := hb4.size; (try simp at this); omega
    have q4_0 : w4.cell? ⟨w.heap.size, 0, none⟩ = some (.int .i64 s) := by rw [hb4.cell (p := ⟨w.heap.size, 0, none⟩) (by first | omega | (simp; done) | (simp; omega) | (dsimp only; omega))]; first | exact q3_0 | (rw [World.cell?_alloc_past _ _ _ (by omega)]; exact q3_0) | (simp [go_sem]; done)
    have q4_1 : w4.cell? ⟨w.heap.size, 1, none⟩ = some (.slice ad gs.length cd) := by rw [hb4.cell (p := ⟨w.heap.size, 1, none⟩) (by first | omega | (simp; done) | (simp; omega) | (dsimp only; omega))]; first | exact q3_1 | (rw [World.cell?_alloc_past _ _ _ (by omega)]; exact q3_1) | (simp [go_sem]; done)
    have q4_2 : w4.cell? ⟨w.heap.size, 2, none⟩ = some (.slice ak ps.length ck) := by rw [hb4.cell (p := ⟨w.heap.size, 2, none⟩) (by first | omega | (simp; done) | (simp; omega) | (dsimp only; omega))]; first | exact q3_2 | (rw [World.cell?_alloc_past _ _ _ (by omega)]; exact q3_2) | (simp [go_sem]; done)
    have q4_3 : w4.cell? ⟨w3.heap.size, 0, none⟩ = some (.int .i64 R.size) := by rw [hb4.cell (p := ⟨w3.heap.size, 0, none⟩) (by first | omega | (simp; done) | (simp; omega) | (dsimp only; omega))]; first | exact q3_3 | (rw [World.cell?_alloc_past _ _ _ (by omega)]; exact q3_3) | (simp [go_sem]; done)
    have q4_4 : w4.cell? ⟨w3.heap.size, 1, none⟩ = some (.slice adw R.gates.length cdw) := by rw [hb4.cell (p := ⟨w3.heap.size, 1, none⟩) (by first | omega | (simp; done) | (simp; omega) | (dsimp only; omega))]; first | exact q3_4 | (rw [World.cell?_alloc_past _ _ _ (by omega)]; exact q3_4) | (simp [go_sem]; done)
    have q4_5 : w4.cell? ⟨w3.heap.size, 2, none⟩ = some (.slice akw R.pulls.length ckw) := by rw [hb4.cell (p := ⟨w3.heap.size, 2, none⟩) (by first | omega | (simp; done) | (simp; omega) | (dsimp only; omega))]; first | exact q3_5 | (rw [World.cell?_alloc_past _ _ _ (by omega)]; exact q3_5) | (simp [go_sem]; done)
    have B0_4 : Hid (Below w.heap.size w w4) := (below_then (Below.alloc B0_3.out (by first | omega | (simp; done) | (simp; omega) | (dsimp only; omega)) _) hb4)
    have B3_4 : Hid (Below w3.heap.size w3 w4) := (below_then (Below.alloc (Below.refl _ _) (by first | omega | (simp; done) | (simp; omega) | (dsimp only; omega)) _) hb4)
    have HO4 := Lib.hid ho4; clear ho4
    obtain ⟨e43, e41, vd4, vk4, hu4, o43, o41, hap4⟩ := HO4.out
    obtain ⟨ad4, cd4, rfl⟩ := o43.slice
    obtain ⟨ak4, ck4, rfl⟩ := o41.slice
    subst hu4
    clear o43 o41 hap4
    have a4_0 := (World.cell?_alloc_lt w4 (.cells #[.int .i64 s, .slice ad4 gs.length cd4, .slice ak4 ps.length ck4] 40) ⟨w.heap.size, 0, none⟩ (show w.heap.size < w4.heap.size by omega)).trans q4_0
    have a4_1 := (World.cell?_alloc_lt w4 (.cells #[.int .i64 s, .slice ad4 gs.length cd4, .slice ak4 ps.length ck4] 40) ⟨w.heap.size, 1, none⟩ (show w.heap.size < w4.heap.size by omega)).trans q4_1
    have a4_2 := (World.cell?_alloc_lt w4 (.cells #[.int .i64 s, .slice ad4 gs.length cd4, .slice ak4 ps.length ck4] 40) ⟨w.heap.size, 2, none⟩ (show w.heap.size < w4.heap.size by omega)).trans q4_2
    have a4_3 := (World.cell?_alloc_lt w4 (.cells #[.int .i64 s, .slice ad4 gs.length cd4, .slice ak4 ps.length ck4] 40) ⟨w3.heap.size, 0, none⟩ (show w3.heap.size < w4.heap.size by omega)).trans q4_3
    have a4_4 := (World.cell?_alloc_lt w4 (.cells #[.int .i64 s, .slice ad4 gs.length cd4, .slice ak4 ps.length ck4] 40) ⟨w3.heap.size, 1, none⟩ (show w3.heap.size < w4.heap.size by omega)).trans q4_4
    have a4_5 := (World.cell?_alloc_lt w4 (.cells #[.int .i64 s, .slice ad4 gs.length cd4, .slice ak4 ps.length ck4] 40) ⟨w3.heap.size, 2, none⟩ (show w3.heap.size < w4.heap.size by omega)).trans q4_5
    go_wp2_with fail
    have q4_6 : True := trivial
    have q4_7 : True := trivial
    have q4_8 : True := trivial
    refine (implTurnLevers_c _ ⟨s, gs, ps⟩ _ _ R b HP.out ((HO4.out.wk n1 n2).later (Below.alloc (Below.refl _ _) (by first | omega | (simp; done) | (simp; omega) | (dsimp only; omega)) _)) wi1).mono ?_
    rintro e w5 ⟨vg, rfl, hog, hb5⟩
    have z5 : w4.heap.size + 1 ≤ w5.heap.size := by have := hb5.size; (try simp at this); omega
    have q5_0 : w5.cell? ⟨w.heap.size, 0, none⟩ = some (.int .i64 s) := by rw [hb5.cell (p := ⟨w.heap.size, 0, none⟩) (by first | omega | (simp; done) | (simp; omega) | (dsimp only; omega))]; first | exact q4_0 | (rw [World.cell?_alloc_past _ _ _ (by omega)]; exact q4_0) | (simp [go_sem]; done)
    have q5_1 : w5.cell? ⟨w.heap.size, 1, none⟩ = some (.slice ad gs.length cd) := by rw [hb5.cell (p := ⟨w.heap.size, 1, none⟩) (by first | omega | (simp; done) | (simp; omega) | (dsimp only; omega))]; first | exact q4_1 | (rw [World.cell?_alloc_past _ _ _ (by omega)]; exact q4_1) | (simp [go_sem]; done)
    have q5_2 : w5.cell? ⟨w.heap.size, 2, none⟩ = some (.slice ak ps.length ck) := by rw [hb5.cell (p := ⟨w.heap.size, 2, none⟩) (by first | omega | (simp; done) | (simp; omega) | (dsimp only; omega))]; first | exact q4_2 | (rw [World.cell?_alloc_past _ _ _ (by omega)]; exact q4_2) | (simp [go_sem]; done)
    have q5_3 : w5.cell? ⟨w3.heap.size, 0, none⟩ = some (.int .i64 R.size) := by rw [hb5.cell (p := ⟨w3.heap.size, 0, none⟩) (by first | omega | (simp; done) | (simp; omega) | (dsimp only; omega))]; first | exact q4_3 | (rw [World.cell?_alloc_past _ _ _ (by omega)]; exact q4_3) | (simp [go_sem]; done)
    have q5_4 : w5.cell? ⟨w3.heap.size, 1, none⟩ = some (.slice adw R.gates.length cdw) := by rw [hb5.cell (p := ⟨w3.heap.size, 1, none⟩) (by first | omega | (simp; done) | (simp; omega) | (dsimp only; omega))]; first | exact q4_4 | (rw [World.cell?_alloc_past _ _ _ (by omega)]; exact q4_4) | (simp [go_sem]; done)
    have q5_5 : w5.cell? ⟨w3.heap.size, 2, none⟩ = some (.slice akw R.pulls.length ckw) := by rw [hb5.cell (p := ⟨w3.heap.size, 2, none⟩) (by first | omega | (simp; done) | (simp; omega) | (dsimp only; omega))]; first | exact q4_5 | (rw [World.cell?_alloc_past _ _ _ (by omega)]; exact q4_5) | (simp [go_sem]; done)
    have q5_6 : w5.cell? ⟨w4.heap.size, 0, none⟩ = some (.int .i64 s) := by rw [hb5.cell (p := ⟨w4.heap.size, 0, none⟩) (by first | omega | (simp; done) | (simp; omega) | (dsimp only; omega))]; first | exact q4_6 | (rw [World.cell?_alloc_past _ _ _ (by omega)]; exact q4_6) | (simp [go_sem]; done)
    have q5_7 : w5.cell? ⟨w4.heap.size, 1, none⟩ = some (.slice ad4 gs.length cd4) := by rw [hb5.cell (p := ⟨w4.heap.size, 1, none⟩) (by first | omega | (simp; done) | (simp; omega) | (dsimp only; omega))]; first | exact q4_7 | (rw [World.cell?_alloc_past _ _ _ (by omega)]; exact q4_7) | (simp [go_sem]; done)
    have q5_8 : w5.cell? ⟨w4.heap.size, 2, none⟩ = some (.slice ak4 ps.length ck4) := by rw [hb5.cell (p := ⟨w4.heap.size, 2, none⟩) (by first | omega | (simp; done) | (simp; omega) | (dsimp only; omega))]; first | exact q4_8 | (rw [World.cell?_alloc_past _ _ _ (by omega)]; exact q4_8) | (simp [go_sem]; done)
    have B0_5 : Hid (Below w.heap.size w w5) := (below_then (Below.alloc B0_4.out (by first | omega | (simp; done) | (simp; omega) | (dsimp only; omega)) _) hb5)
    have B3_5 : Hid (Below w3.heap.size w3 w5) := (below_then (Below.alloc B3_4.out (by first | omega | (simp; done) | (simp; omega) | (dsimp only; omega)) _) hb5)
    have B4_5 : Hid (Below w4.heap.size w4 w5) := (below_then (Below.alloc (Below.refl _ _) (by first | omega | (simp; done) | (simp; omega) | (dsimp only; omega)) _) hb5)
    have HG := Lib.hid hog; clear hog
    have zlo : w4.heap.size ≤ w5.heap.size := by omega
    obtain ⟨eg3, eg1, vdg, vkg, hug, og3, og1, hapg⟩ := HG.out
    obtain ⟨adg, cdg, rfl⟩ := og3.slice
    obtain ⟨akg, ckg, rfl⟩ := og1.slice
    subst hug
    clear og3 og1 hapg
    have a5_0 := (World.cell?_alloc_lt w5 (.cells #[.int .i64 R.size, .slice adg R.gates.length cdg, .slice akg R.pulls.length ckg] 40) ⟨w.heap.size, 0, none⟩ (show w.heap.size < w5.heap.size by omega)).trans q5_0
    have a5_1 := (World.cell?_alloc_lt w5 (.cells #[.int .i64 R.size, .slice adg R.gates.length cdg, .slice akg R.pulls.length ckg] 40) ⟨w.heap.size, 1, none⟩ (show w.heap.size < w5.heap.size by omega)).trans q5_1
    have a5_2 := (World.cell?_alloc_lt w5 (.cells #[.int .i64 R.size, .slice adg R.gates.length cdg, .slice akg R.pulls.length ckg] 40) ⟨w.heap.size, 2, none⟩ (show w.heap.size < w5.heap.size by omega)).trans q5_2
    have a5_3 := (World.cell?_alloc_lt w5 (.cells #[.int .i64 R.size, .slice adg R.gates.length cdg, .slice akg R.pulls.length ckg] 40) ⟨w3.heap.size, 0, none⟩ (show w3.heap.size < w5.heap.size by omega)).trans q5_3
    have a5_4 := (World.cell?_alloc_lt w5 (.cells #[.int .i64 R.size, .slice adg R.gates.length cdg, .slice akg R.pulls.length ckg] 40) ⟨w3.heap.size, 1, none⟩ (show w3.heap.size < w5.heap.size by omega)).trans q5_4
    have a5_5 := (World.cell?_alloc_lt w5 (.cells #[.int .i64 R.size, .slice adg R.gates.length cdg, .slice akg R.pulls.length ckg] 40) ⟨w3.heap.size, 2, none⟩ (show w3.heap.size < w5.heap.size by omega)).trans q5_5
    have a5_6 := (World.cell?_alloc_lt w5 (.cells #[.int .i64 R.size, .slice adg R.gates.length cdg, .slice akg R.pulls.length ckg] 40) ⟨w4.heap.size, 0, none⟩ (show w4.heap.size < w5.heap.size by omega)).trans q5_6
    have a5_7 := (World.cell?_alloc_lt w5 (.cells #[.int .i64 R.size, .slice adg R.gates.length cdg, .slice akg R.pulls.length ckg] 40) ⟨w4.heap.size, 1, none⟩ (show w4.heap.size < w5.heap.size by omega)).trans q5_7
    have a5_8 := (World.cell?_alloc_lt w5 (.cells #[.int .i64 R.size, .slice adg R.gates.length cdg, .slice akg R.pulls.length ckg] 40) ⟨w4.heap.size, 2, none⟩ (show w4.heap.size < w5.heap.size by omega)).trans q5_8
    go_wp2_with fail
    have q5_9 : True := trivial
    have q5_10 : True := trivial
    have q5_11 : True := trivial
    refine (eqWorks_c _ _ R R _ ((HG.out.wk (by omega) (by omega)).later (Below.alloc (Below.refl _ _) (by first | omega | (simp; done) | (simp; omega) | (dsimp only; omega)) _)) (HW.out.later (Below.alloc B3_5.out (by first | omega | (simp; done) | (simp; omega) | (dsimp only; omega)) _))).mono ?_
    rintro e w6 ⟨rfl, hb6⟩
    have z6 : w5.heap.size + 1 ≤ w6.heap.size := by have := hb6.size; (try simp at this); omega
    have q6_0 : w6.cell? ⟨w.heap.size, 0, none⟩ = some (.int .i64 s) := by rw [hb6.cell (p := ⟨w.heap.size, 0, none⟩) (by first | omega | (simp; done) | (simp; omega) | (dsimp only; omega))]; first | exact q5_0 | (rw [World.cell?_alloc_past _ _ _ (by omega)]; exact q5_0) | (simp [go_sem]; done)
    have q6_1 : w6.cell? ⟨w.heap.size, 1, none⟩ = some (.slice ad gs.length cd) := by rw [hb6.cell (p := ⟨w.heap.size, 1, none⟩) (by first | omega | (simp; done) | (simp; omega) | (dsimp only; omega))]; first | exact q5_1 | (rw [World.cell?_alloc_past _ _ _ (by omega)]; exact q5_1) | (simp [go_sem]; done)
    have q6_2 : w6.cell? ⟨w.heap.size, 2, none⟩ = some (.slice ak ps.length ck) := by rw [hb6.cell (p := ⟨w.heap.size, 2, none⟩) (by first | omega | (simp; done) | (simp; omega) | (dsimp only; omega))]; first | exact q5_2 | (rw [World.cell?_alloc_past _ _ _ (by omega)]; exact q5_2) | (simp [go_sem]; done)
    have q6_3 : w6.cell? ⟨w3.heap.size, 0, none⟩ = some (.int .i64 R.size) := by rw [hb6.cell (p := ⟨w3.heap.size, 0, none⟩) (by first | omega | (simp; done) | (simp; omega) | (dsimp only; omega))]; first | exact q5_3 | (rw [World.cell?_alloc_past _ _ _ (by omega)]; exact q5_3) | (simp [go_sem]; done)
    have q6_4 : w6.cell? ⟨w3.heap.size, 1, none⟩ = some (.slice adw R.gates.length cdw) := by rw [hb6.cell (p := ⟨w3.heap.size, 1, none⟩) (by first | omega | (simp; done) | (simp; omega) | (dsimp only; omega))]; first | exact q5_4 | (rw [World.cell?_alloc_past _ _ _ (by omega)]; exact q5_4) | (simp [go_sem]; done)
    have q6_5 : w6.cell? ⟨w3.heap.size, 2, none⟩ = some (.slice akw R.pulls.length ckw) := by rw [hb6.cell (p := ⟨w3.heap.size, 2, none⟩) (by first | omega | (simp; done) | (simp; omega) | (dsimp only; omega))]; first | exact q5_5 | (rw [World.cell?_alloc_past _ _ _ (by omega)]; exact q5_5) | (simp [go_sem]; done)
    have q6_6 : w6.cell? ⟨w4.heap.size, 0, none⟩ = some (.int .i64 s) := by rw [hb6.cell (p := ⟨w4.heap.size, 0, none⟩) (by first | omega | (simp; done) | (simp; omega) | (dsimp only; omega))]; first | exact q5_6 | (rw [World.cell?_alloc_past _ _ _ (by omega)]; exact q5_6) | (simp [go_sem]; done)
    have q6_7 : w6.cell? ⟨w4.heap.size, 1, none⟩ = some (.slice ad4 gs.length cd4) := by rw [hb6.cell (p := ⟨w4.heap.size, 1, none⟩) (by first | omega | (simp; done) | (simp; omega) | (dsimp only; omega))]; first | exact q5_7 | (rw [World.cell?_alloc_past _ _ _ (by omega)]; exact q5_7) | (simp [go_sem]; done)
    have q6_8 : w6.cell? ⟨w4.heap.size, 2, none⟩ = some (.slice ak4 ps.length ck4) := by rw [hb6.cell (p := ⟨w4.heap.size, 2, none⟩) (by first | omega | (simp; done) | (simp; omega) | (dsimp only; omega))]; first | exact q5_8 | (rw [World.cell?_alloc_past _ _ _ (by omega)]; exact q5_8) | (simp [go_sem]; done)
    have q6_9 : w6.cell? ⟨w5.heap.size, 0, none⟩ = some (.int .i64 R.size) := by rw [hb6.cell (p := ⟨w5.heap.size, 0, none⟩) (by first | omega | (simp; done) | (simp; omega) | (dsimp only; omega))]; first | exact q5_9 | (rw [World.cell?_alloc_past _ _ _ (by omega)]; exact q5_9) | (simp [go_sem]; done)
    have q6_10 : w6.cell? ⟨w5.heap.size, 1, none⟩ = some (.slice adg R.gates.length cdg) := by rw [hb6.cell (p := ⟨w5.heap.size, 1, none⟩) (by first | omega | (simp; done) | (simp; omega) | (dsimp only; omega))]; first | exact q5_10 | (rw [World.cell?_alloc_past _ _ _ (by omega)]; exact q5_10) | (simp [go_sem]; done)
    have q6_11 : w6.cell? ⟨w5.heap.size, 2, none⟩ = some (.slice akg R.pulls.length ckg) := by rw [hb6.cell (p := ⟨w5.heap.size, 2, none⟩) (by first | omega | (simp; done) | (simp; omega) | (dsimp only; omega))]; first | exact q5_11 | (rw [World.cell?_alloc_past _ _ _ (by omega)]; exact q5_11) | (simp [go_sem]; done)
    have B0_6 : Hid (Below w.heap.size w w6) := (below_then (Below.alloc B0_5.out (by first | omega | (simp; done) | (simp; omega) | (dsimp only; omega)) _) hb6)
    have B3_6 : Hid (Below w3.heap.size w3 w6) := (below_then (Below.alloc B3_5.out (by first | omega | (simp; done) | (simp; omega) | (dsimp only; omega)) _) hb6)
    have B4_6 : Hid (Below w4.heap.size w4 w6) := (below_then (Below.alloc B4_5.out (by first | omega | (simp; done) | (simp; omega) | (dsimp only; omega)) _) hb6)
    have B5_6 : Hid (Below w5.heap.size w5 w6) := (below_then (Below.alloc (Below.refl _ _) (by first | omega | (simp; done) | (simp; omega) | (dsimp only; omega)) _) hb6)
    go_wp2_with fail
    go_region_held3 (fun W => W.cell? ⟨w.heap.size, 0, none⟩ = some (.int .i64 s) ∧ W.cell? ⟨w.heap.size, 1, none⟩ = some (.slice ad gs.length cd) ∧ W.cell? ⟨w.heap.size, 2, none⟩ = some (.slice ak ps.length ck) ∧ W.cell? ⟨w3.heap.size, 0, none⟩ = some (.int .i64 R.size) ∧ W.cell? ⟨w3.heap.size, 1, none⟩ = some (.slice adw R.gates.length cdw) ∧ W.cell? ⟨w3.heap.size, 2, none⟩ = some (.slice akw R.pulls.length ckw) ∧ W.cell? ⟨w4.heap.size, 0, none⟩ = some (.int .i64 s) ∧ W.cell? ⟨w4.heap.size, 1, none⟩ = some (.slice ad4 gs.length cd4) ∧ W.cell? ⟨w4.heap.size, 2, none⟩ = some (.slice ak4 ps.length ck4) ∧ W.cell? ⟨w5.heap.size, 0, none⟩ = some (.int .i64 R.size) ∧ W.cell? ⟨w5.heap.size, 1, none⟩ = some (.slice adg R.gates.length cdg) ∧ W.cell? ⟨w5.heap.size, 2, none⟩ = some (.slice akg R.pulls.length ckg))
      (first | exact ⟨q6_0, q6_1, q6_2, q6_3, q6_4, q6_5, q6_6, q6_7, q6_8, q6_9, q6_10, q6_11⟩ | exact ⟨q7_0, q7_1, q7_2, q7_3, q7_4, q7_5, q7_6, q7_7, q7_8, q7_9, q7_10, q7_11⟩ | exact ⟨q8_0, q8_1, q8_2, q8_3, q8_4, q8_5, q8_6, q8_7, q8_8, q8_9, q8_10, q8_11⟩)
      (first | (go_at_call 22; refine (toWorks_c _ _ _ (hm.later (B0_6.out).drew)).mono ?_; rintro e w7 ⟨u7, rfl, ho7, hb7⟩; have HO7 := Lib.hid ho7; clear ho7; have q7_0 : w7.cell? ⟨w.heap.size, 0, none⟩ = some (.int .i64 s) := (hb7.cell (p := ⟨w.heap.size, 0, none⟩) (show w.heap.size < w6.heap.size from by omega)).trans q6_0; have q7_1 : w7.cell? ⟨w.heap.size, 1, none⟩ = some (.slice ad gs.length cd) := (hb7.cell (p := ⟨w.heap.size, 1, none⟩) (show w.heap.size < w6.heap.size from by omega)).trans q6_1; have q7_2 : w7.cell? ⟨w.heap.size, 2, none⟩ = some (.slice ak ps.length ck) := (hb7.cell (p := ⟨w.heap.size, 2, none⟩) (show w.heap.size < w6.heap.size from by omega)).trans q6_2; have q7_3 : w7.cell? ⟨w3.heap.size, 0, none⟩ = some (.int .i64 R.size) := (hb7.cell (p := ⟨w3.heap.size, 0, none⟩) (show w3.heap.size < w6.heap.size from by omega)).trans q6_3; have q7_4 : w7.cell? ⟨w3.heap.size, 1, none⟩ = some (.slice adw R.gates.length cdw) := (hb7.cell (p := ⟨w3.heap.size, 1, none⟩) (show w3.heap.size < w6.heap.size from by omega)).trans q6_4; have q7_5 : w7.cell? ⟨w3.heap.size, 2, none⟩ = some (.slice akw R.pulls.length ckw) := (hb7.cell (p := ⟨w3.heap.size, 2, none⟩) (show w3.heap.size < w6.heap.size from by omega)).trans q6_5; have q7_6 : w7.cell? ⟨w4.heap.size, 0, none⟩ = some (.int .i64 s) := (hb7.cell (p := ⟨w4.heap.size, 0, none⟩) (show w4.heap.size < w6.heap.size from by omega)).trans q6_6; have q7_7 : w7.cell? ⟨w4.heap.size, 1, none⟩ = some (.slice ad4 gs.length cd4) := (hb7.cell (p := ⟨w4.heap.size, 1, none⟩) (show w4.heap.size < w6.heap.size from by omega)).trans q6_7; have q7_8 : w7.cell? ⟨w4.heap.size, 2, none⟩ = some (.slice ak4 ps.length ck4) := (hb7.cell (p := ⟨w4.heap.size, 2, none⟩) (show w4.heap.size < w6.heap.size from by omega)).trans q6_8; have q7_9 : w7.cell? ⟨w5.heap.size, 0, none⟩ = some (.int .i64 R.size) := (hb7.cell (p := ⟨w5.heap.size, 0, none⟩) (show w5.heap.size < w6.heap.size from by omega)).trans q6_9; have q7_10 : w7.cell? ⟨w5.heap.size, 1, none⟩ = some (.slice adg R.gates.length cdg) := (hb7.cell (p := ⟨w5.heap.size, 1, none⟩) (show w5.heap.size < w6.heap.size from by omega)).trans q6_10; have q7_11 : w7.cell? ⟨w5.heap.size, 2, none⟩ = some (.slice akg R.pulls.length ckg) := (hb7.cell (p := ⟨w5.heap.size, 2, none⟩) (show w5.heap.size < w6.heap.size from by omega)).trans q6_11) | (go_at_call 24; refine (eqWorks_c _ _ ⟨s, gs, ps⟩ ⟨s, gs, ps⟩ _ ((HO4.out.wk n1 n2).later (below_then (B4_6.out).drew hb7)) (HO7.out.wk n1 n2)).mono ?_; rintro e w8 ⟨rfl, hb8⟩; have q8_0 : w8.cell? ⟨w.heap.size, 0, none⟩ = some (.int .i64 s) := (hb8.cell (p := ⟨w.heap.size, 0, none⟩) (show w.heap.size < w7.heap.size from (by have : w6.heap.size ≤ w7.heap.size := hb7.size; omega))).trans q7_0; have q8_1 : w8.cell? ⟨w.heap.size, 1, none⟩ = some (.slice ad gs.length cd) := (hb8.cell (p := ⟨w.heap.size, 1, none⟩) (show w.heap.size < w7.heap.size from (by have : w6.heap.size ≤ w7.heap.size := hb7.size; omega))).trans q7_1; have q8_2 : w8.cell? ⟨w.heap.size, 2, none⟩ = some (.slice ak ps.length ck) := (hb8.cell (p := ⟨w.heap.size, 2, none⟩) (show w.heap.size < w7.heap.size from (by have : w6.heap.size ≤ w7.heap.size := hb7.size; omega))).trans q7_2; have q8_3 : w8.cell? ⟨w3.heap.size, 0, none⟩ = some (.int .i64 R.size) := (hb8.cell (p := ⟨w3.heap.size, 0, none⟩) (show w3.heap.size < w7.heap.size from (by have : w6.heap.size ≤ w7.heap.size := hb7.size; omega))).trans q7_3; have q8_4 : w8.cell? ⟨w3.heap.size, 1, none⟩ = some (.slice adw R.gates.length cdw) := (hb8.cell (p := ⟨w3.heap.size, 1, none⟩) (show w3.heap.size < w7.heap.size from (by have : w6.heap.size ≤ w7.heap.size := hb7.size; omega))).trans q7_4; have q8_5 : w8.cell? ⟨w3.heap.size, 2, none⟩ = some (.slice akw R.pulls.length ckw) := (hb8.cell (p := ⟨w3.heap.size, 2, none⟩) (show w3.heap.size < w7.heap.size from (by have : w6.heap.size ≤ w7.heap.size := hb7.size; omega))).trans q7_5; have q8_6 : w8.cell? ⟨w4.heap.size, 0, none⟩ = some (.int .i64 s) := (hb8.cell (p := ⟨w4.heap.size, 0, none⟩) (show w4.heap.size < w7.heap.size from (by have : w6.heap.size ≤ w7.heap.size := hb7.size; omega))).trans q7_6; have q8_7 : w8.cell? ⟨w4.heap.size, 1, none⟩ = some (.slice ad4 gs.length cd4) := (hb8.cell (p := ⟨w4.heap.size, 1, none⟩) (show w4.heap.size < w7.heap.size from (by have : w6.heap.size ≤ w7.heap.size := hb7.size; omega))).trans q7_7; have q8_8 : w8.cell? ⟨w4.heap.size, 2, none⟩ = some (.slice ak4 ps.length ck4) := (hb8.cell (p := ⟨w4.heap.size, 2, none⟩) (show w4.heap.size < w7.heap.size from (by have : w6.heap.size ≤ w7.heap.size := hb7.size; omega))).trans q7_8; have q8_9 : w8.cell? ⟨w5.heap.size, 0, none⟩ = some (.int .i64 R.size) := (hb8.cell (p := ⟨w5.heap.size, 0, none⟩) (show w5.heap.size < w7.heap.size from (by have : w6.heap.size ≤ w7.heap.size := hb7.size; omega))).trans q7_9; have q8_10 : w8.cell? ⟨w5.heap.size, 1, none⟩ = some (.slice adg R.gates.length cdg) := (hb8.cell (p := ⟨w5.heap.size, 1, none⟩) (show w5.heap.size < w7.heap.size from (by have : w6.heap.size ≤ w7.heap.size := hb7.size; omega))).trans q7_10; have q8_11 : w8.cell? ⟨w5.heap.size, 2, none⟩ = some (.slice akg R.pulls.length ckg) := (hb8.cell (p := ⟨w5.heap.size, 2, none⟩) (show w5.heap.size < w7.heap.size from (by have : w6.heap.size ≤ w7.heap.size := hb7.size; omega))).trans q7_11))
    have z7 : w6.heap.size ≤ w7.heap.size := hb7.size
    have z8 : w7.heap.size ≤ w8.heap.size := hb8.size
    have B0_8 : Hid (Below w.heap.size w w8) := (below_then (below_then (Below.drew B0_6.out) hb7) hb8)
    have B3_8 : Hid (Below w3.heap.size w3 w8) := (below_then (below_then (Below.drew B3_6.out) hb7) hb8)
    have B4_8 : Hid (Below w4.heap.size w4 w8) := (below_then (below_then (Below.drew B4_6.out) hb7) hb8)
    have B5_8 : Hid (Below w5.heap.size w5 w8) := (below_then (below_then (Below.drew B5_6.out) hb7) hb8)
    go_wp2_with fail
    refine (markWorks_c _ _ _ ⟨s, gs, ps⟩ _ _ (HO4.out.later B4_8.out (Nat.le_refl _)) (by omega) n1 n2 (by omega) (by omega)).mono ?_
    rintro e w9 ⟨rfl, hc9⟩
    have z9 : w8.heap.size ≤ w9.heap.size := by have := hc9.size; (try simp at this); omega
    have q9_0 : w9.cell? ⟨w.heap.size, 0, none⟩ = some (.int .i64 s) := (hc9.cell (p := ⟨w.heap.size, 0, none⟩) (show w.heap.size < w8.heap.size by omega) (by first | (left; show w.heap.size < _; omega) | (right; show _ ≤ w.heap.size; omega) | (left; simp; done) | (left; simp; omega) | (right; simp; omega))).trans q8_0
    have q9_1 : w9.cell? ⟨w.heap.size, 1, none⟩ = some (.slice ad gs.length cd) := (hc9.cell (p := ⟨w.heap.size, 1, none⟩) (show w.heap.size < w8.heap.size by omega) (by first | (left; show w.heap.size < _; omega) | (right; show _ ≤ w.heap.size; omega) | (left; simp; done) | (left; simp; omega) | (right; simp; omega))).trans q8_1
    have q9_2 : w9.cell? ⟨w.heap.size, 2, none⟩ = some (.slice ak ps.length ck) := (hc9.cell (p := ⟨w.heap.size, 2, none⟩) (show w.heap.size < w8.heap.size by omega) (by first | (left; show w.heap.size < _; omega) | (right; show _ ≤ w.heap.size; omega) | (left; simp; done) | (left; simp; omega) | (right; simp; omega))).trans q8_2
    have q9_3 : w9.cell? ⟨w3.heap.size, 0, none⟩ = some (.int .i64 R.size) := (hc9.cell (p := ⟨w3.heap.size, 0, none⟩) (show w3.heap.size < w8.heap.size by omega) (by first | (left; show w3.heap.size < _; omega) | (right; show _ ≤ w3.heap.size; omega) | (left; simp; done) | (left; simp; omega) | (right; simp; omega))).trans q8_3
    have q9_4 : w9.cell? ⟨w3.heap.size, 1, none⟩ = some (.slice adw R.gates.length cdw) := (hc9.cell (p := ⟨w3.heap.size, 1, none⟩) (show w3.heap.size < w8.heap.size by omega) (by first | (left; show w3.heap.size < _; omega) | (right; show _ ≤ w3.heap.size; omega) | (left; simp; done) | (left; simp; omega) | (right; simp; omega))).trans q8_4
    have q9_5 : w9.cell? ⟨w3.heap.size, 2, none⟩ = some (.slice akw R.pulls.length ckw) := (hc9.cell (p := ⟨w3.heap.size, 2, none⟩) (show w3.heap.size < w8.heap.size by omega) (by first | (left; show w3.heap.size < _; omega) | (right; show _ ≤ w3.heap.size; omega) | (left; simp; done) | (left; simp; omega) | (right; simp; omega))).trans q8_5
    have q9_6 : w9.cell? ⟨w4.heap.size, 0, none⟩ = some (.int .i64 s) := (hc9.cell (p := ⟨w4.heap.size, 0, none⟩) (show w4.heap.size < w8.heap.size by omega) (by first | (left; show w4.heap.size < _; omega) | (right; show _ ≤ w4.heap.size; omega) | (left; simp; done) | (left; simp; omega) | (right; simp; omega))).trans q8_6
    have q9_7 : w9.cell? ⟨w4.heap.size, 1, none⟩ = some (.slice ad4 gs.length cd4) := (hc9.cell (p := ⟨w4.heap.size, 1, none⟩) (show w4.heap.size < w8.heap.size by omega) (by first | (left; show w4.heap.size < _; omega) | (right; show _ ≤ w4.heap.size; omega) | (left; simp; done) | (left; simp; omega) | (right; simp; omega))).trans q8_7
    have q9_8 : w9.cell? ⟨w4.heap.size, 2, none⟩ = some (.slice ak4 ps.length ck4) := (hc9.cell (p := ⟨w4.heap.size, 2, none⟩) (show w4.heap.size < w8.heap.size by omega) (by first | (left; show w4.heap.size < _; omega) | (right; show _ ≤ w4.heap.size; omega) | (left; simp; done) | (left; simp; omega) | (right; simp; omega))).trans q8_8
    have q9_9 : w9.cell? ⟨w5.heap.size, 0, none⟩ = some (.int .i64 R.size) := (hc9.cell (p := ⟨w5.heap.size, 0, none⟩) (show w5.heap.size < w8.heap.size by omega) (by first | (left; show w5.heap.size < _; omega) | (right; show _ ≤ w5.heap.size; omega) | (left; simp; done) | (left; simp; omega) | (right; simp; omega))).trans q8_9
    have q9_10 : w9.cell? ⟨w5.heap.size, 1, none⟩ = some (.slice adg R.gates.length cdg) := (hc9.cell (p := ⟨w5.heap.size, 1, none⟩) (show w5.heap.size < w8.heap.size by omega) (by first | (left; show w5.heap.size < _; omega) | (right; show _ ≤ w5.heap.size; omega) | (left; simp; done) | (left; simp; omega) | (right; simp; omega))).trans q8_10
    have q9_11 : w9.cell? ⟨w5.heap.size, 2, none⟩ = some (.slice akg R.pulls.length ckg) := (hc9.cell (p := ⟨w5.heap.size, 2, none⟩) (show w5.heap.size < w8.heap.size by omega) (by first | (left; show w5.heap.size < _; omega) | (right; show _ ≤ w5.heap.size; omega) | (left; simp; done) | (left; simp; omega) | (right; simp; omega))).trans q8_11
    have HG_9 := Lib.hid ((HG.out.later B5_8.out (by first | exact Nat.le_refl _ | omega | (simp; done) | (simp; omega))).chg hc9 (by first | (left; first | omega | (simp; done) | (simp; omega)) | (right; first | omega | (simp; done) | (simp; omega))))
    have B0_9 : Hid (Below w.heap.size w w9) := (Below.trans B0_8.out (hc9.below (by first | omega | (simp; done) | (simp; omega) | (dsimp only; omega)) (by first | omega | (simp; done) | (simp; omega) | (dsimp only; omega))))
    have B3_9 : Hid (Below w3.heap.size w3 w9) := (Below.trans B3_8.out (hc9.below (by first | omega | (simp; done) | (simp; omega) | (dsimp only; omega)) (by first | omega | (simp; done) | (simp; omega) | (dsimp only; omega))))
    have hk0 : decide (1 + (gs.length : Int) * 4 + (ps.length : Int) < 0) = false := by simp; omega
    go_wp2_with fail
    refine (eqWorks_c _ _ R R _ (HG_9.out.wk (by omega) (by omega)) (HW.out.later B3_9.out)).mono ?_
    rintro e w10 ⟨rfl, hb10⟩
    have z10 : w9.heap.size ≤ w10.heap.size := by have := hb10.size; (try simp at this); omega
    have q10_0 : w10.cell? ⟨w.heap.size, 0, none⟩ = some (.int .i64 s) := by rw [hb10.cell (p := ⟨w.heap.size, 0, none⟩) (by first | omega | (simp; done) | (simp; omega) | (dsimp only; omega))]; first | exact q9_0 | (rw [World.cell?_alloc_past _ _ _ (by omega)]; exact q9_0) | (simp [go_sem]; done)
    have q10_1 : w10.cell? ⟨w.heap.size, 1, none⟩ = some (.slice ad gs.length cd) := by rw [hb10.cell (p := ⟨w.heap.size, 1, none⟩) (by first | omega | (simp; done) | (simp; omega) | (dsimp only; omega))]; first | exact q9_1 | (rw [World.cell?_alloc_past _ _ _ (by omega)]; exact q9_1) | (simp [go_sem]; done)
    have q10_2 : w10.cell? ⟨w.heap.size, 2, none⟩ = some (.slice ak ps.length ck) := by rw [hb10.cell (p := ⟨w.heap.size, 2, none⟩) (by first | omega | (simp; done) | (simp; omega) | (dsimp only; omega))]; first | exact q9_2 | (rw [World.cell?_alloc_past _ _ _ (by omega)]; exact q9_2) | (simp [go_sem]; done)
    have q10_3 : w10.cell? ⟨w3.heap.size, 0, none⟩ = some (.int .i64 R.size) := by rw [hb10.cell (p := ⟨w3.heap.size, 0, none⟩) (by first | omega | (simp; done) | (simp; omega) | (dsimp only; omega))]; first | exact q9_3 | (rw [World.cell?_alloc_past _ _ _ (by omega)]; exact q9_3) | (simp [go_sem]; done)
    have q10_4 : w10.cell? ⟨w3.heap.size, 1, none⟩ = some (.slice adw R.gates.length cdw) := by rw [hb10.cell (p := ⟨w3.heap.size, 1, none⟩) (by first | omega | (simp; done) | (simp; omega) | (dsimp only; omega))]; first | exact q9_4 | (rw [World.cell?_alloc_past _ _ _ (by omega)]; exact q9_4) | (simp [go_sem]; done)
    have q10_5 : w10.cell? ⟨w3.heap.size, 2, none⟩ = some (.slice akw R.pulls.length ckw) := by rw [hb10.cell (p := ⟨w3.heap.size, 2, none⟩) (by first | omega | (simp; done) | (simp; omega) | (dsimp only; omega))]; first | exact q9_5 | (rw [World.cell?_alloc_past _ _ _ (by omega)]; exact q9_5) | (simp [go_sem]; done)
    have q10_6 : w10.cell? ⟨w4.heap.size, 0, none⟩ = some (.int .i64 s) := by rw [hb10.cell (p := ⟨w4.heap.size, 0, none⟩) (by first | omega | (simp; done) | (simp; omega) | (dsimp only; omega))]; first | exact q9_6 | (rw [World.cell?_alloc_past _ _ _ (by omega)]; exact q9_6) | (simp [go_sem]; done)
    have q10_7 : w10.cell? ⟨w4.heap.size, 1, none⟩ = some (.slice ad4 gs.length cd4) := by rw [hb10.cell (p := ⟨w4.heap.size, 1, none⟩) (by first | omega | (simp; done) | (simp; omega) | (dsimp only; omega))]; first | exact q9_7 | (rw [World.cell?_alloc_past _ _ _ (by omega)]; exact q9_7) | (simp [go_sem]; done)
    have q10_8 : w10.cell? ⟨w4.heap.size, 2, none⟩ = some (.slice ak4 ps.length ck4) := by rw [hb10.cell (p := ⟨w4.heap.size, 2, none⟩) (by first | omega | (simp; done) | (simp; omega) | (dsimp only; omega))]; first | exact q9_8 | (rw [World.cell?_alloc_past _ _ _ (by omega)]; exact q9_8) | (simp [go_sem]; done)
    have q10_9 : w10.cell? ⟨w5.heap.size, 0, none⟩ = some (.int .i64 R.size) := by rw [hb10.cell (p := ⟨w5.heap.size, 0, none⟩) (by first | omega | (simp; done) | (simp; omega) | (dsimp only; omega))]; first | exact q9_9 | (rw [World.cell?_alloc_past _ _ _ (by omega)]; exact q9_9) | (simp [go_sem]; done)
    have q10_10 : w10.cell? ⟨w5.heap.size, 1, none⟩ = some (.slice adg R.gates.length cdg) := by rw [hb10.cell (p := ⟨w5.heap.size, 1, none⟩) (by first | omega | (simp; done) | (simp; omega) | (dsimp only; omega))]; first | exact q9_10 | (rw [World.cell?_alloc_past _ _ _ (by omega)]; exact q9_10) | (simp [go_sem]; done)
    have q10_11 : w10.cell? ⟨w5.heap.size, 2, none⟩ = some (.slice akg R.pulls.length ckg) := by rw [hb10.cell (p := ⟨w5.heap.size, 2, none⟩) (by first | omega | (simp; done) | (simp; omega) | (dsimp only; omega))]; first | exact q9_11 | (rw [World.cell?_alloc_past _ _ _ (by omega)]; exact q9_11) | (simp [go_sem]; done)
    have B0_10 : Hid (Below w.heap.size w w10) := (below_then B0_9.out hb10)
    have B3_10 : Hid (Below w3.heap.size w3 w10) := (below_then B3_9.out hb10)
    have B9_10 : Hid (Below w9.heap.size w9 w10) := (below_then (Below.refl _ _) hb10)
    go_wp2_with fail
    refine (markWorks2_c _ _ _ R _ _ (HG_9.out.later B9_10.out (by first | exact Nat.le_refl _ | omega | (simp; done) | (simp; omega))) (by omega) (by omega) (by omega) (by omega) (by omega)).mono ?_
    rintro e w11 ⟨rfl, hrg, hc11⟩
    have HM0 := Lib.hid (hrg.mono (Nat.le_refl _) (show _ ≤ w11.heap.size by have := hc11.size; (try simp at this); first | omega | (simp; done) | (simp; omega))); clear hrg
    have HM := Lib.hid (HM0.out.wk (by simp [mkWk]; omega) (by simp [mkWk]; omega))
    have z11 : w10.heap.size ≤ w11.heap.size := by have := hc11.size; (try simp at this); omega
    have q11_0 : w11.cell? ⟨w.heap.size, 0, none⟩ = some (.int .i64 s) := (hc11.cell (p := ⟨w.heap.size, 0, none⟩) (show w.heap.size < w10.heap.size by omega) (by first | (left; show w.heap.size < _; omega) | (right; show _ ≤ w.heap.size; omega) | (left; simp; done) | (left; simp; omega) | (right; simp; omega))).trans q10_0
    have q11_1 : w11.cell? ⟨w.heap.size, 1, none⟩ = some (.slice ad gs.length cd) := (hc11.cell (p := ⟨w.heap.size, 1, none⟩) (show w.heap.size < w10.heap.size by omega) (by first | (left; show w.heap.size < _; omega) | (right; show _ ≤ w.heap.size; omega) | (left; simp; done) | (left; simp; omega) | (right; simp; omega))).trans q10_1
    have q11_2 : w11.cell? ⟨w.heap.size, 2, none⟩ = some (.slice ak ps.length ck) := (hc11.cell (p := ⟨w.heap.size, 2, none⟩) (show w.heap.size < w10.heap.size by omega) (by first | (left; show w.heap.size < _; omega) | (right; show _ ≤ w.heap.size; omega) | (left; simp; done) | (left; simp; omega) | (right; simp; omega))).trans q10_2
    have q11_3 : w11.cell? ⟨w3.heap.size, 0, none⟩ = some (.int .i64 R.size) := (hc11.cell (p := ⟨w3.heap.size, 0, none⟩) (show w3.heap.size < w10.heap.size by omega) (by first | (left; show w3.heap.size < _; omega) | (right; show _ ≤ w3.heap.size; omega) | (left; simp; done) | (left; simp; omega) | (right; simp; omega))).trans q10_3
    have q11_4 : w11.cell? ⟨w3.heap.size, 1, none⟩ = some (.slice adw R.gates.length cdw) := (hc11.cell (p := ⟨w3.heap.size, 1, none⟩) (show w3.heap.size < w10.heap.size by omega) (by first | (left; show w3.heap.size < _; omega) | (right; show _ ≤ w3.heap.size; omega) | (left; simp; done) | (left; simp; omega) | (right; simp; omega))).trans q10_4
    have q11_5 : w11.cell? ⟨w3.heap.size, 2, none⟩ = some (.slice akw R.pulls.length ckw) := (hc11.cell (p := ⟨w3.heap.size, 2, none⟩) (show w3.heap.size < w10.heap.size by omega) (by first | (left; show w3.heap.size < _; omega) | (right; show _ ≤ w3.heap.size; omega) | (left; simp; done) | (left; simp; omega) | (right; simp; omega))).trans q10_5
    have q11_6 : w11.cell? ⟨w4.heap.size, 0, none⟩ = some (.int .i64 s) := (hc11.cell (p := ⟨w4.heap.size, 0, none⟩) (show w4.heap.size < w10.heap.size by omega) (by first | (left; show w4.heap.size < _; omega) | (right; show _ ≤ w4.heap.size; omega) | (left; simp; done) | (left; simp; omega) | (right; simp; omega))).trans q10_6
    have q11_7 : w11.cell? ⟨w4.heap.size, 1, none⟩ = some (.slice ad4 gs.length cd4) := (hc11.cell (p := ⟨w4.heap.size, 1, none⟩) (show w4.heap.size < w10.heap.size by omega) (by first | (left; show w4.heap.size < _; omega) | (right; show _ ≤ w4.heap.size; omega) | (left; simp; done) | (left; simp; omega) | (right; simp; omega))).trans q10_7
    have q11_8 : w11.cell? ⟨w4.heap.size, 2, none⟩ = some (.slice ak4 ps.length ck4) := (hc11.cell (p := ⟨w4.heap.size, 2, none⟩) (show w4.heap.size < w10.heap.size by omega) (by first | (left; show w4.heap.size < _; omega) | (right; show _ ≤ w4.heap.size; omega) | (left; simp; done) | (left; simp; omega) | (right; simp; omega))).trans q10_8
    have q11_9 : w11.cell? ⟨w5.heap.size, 0, none⟩ = some (.int .i64 R.size) := (hc11.cell (p := ⟨w5.heap.size, 0, none⟩) (show w5.heap.size < w10.heap.size by omega) (by first | (left; show w5.heap.size < _; omega) | (right; show _ ≤ w5.heap.size; omega) | (left; simp; done) | (left; simp; omega) | (right; simp; omega))).trans q10_9
    have q11_10 : w11.cell? ⟨w5.heap.size, 1, none⟩ = some (.slice adg R.gates.length cdg) := (hc11.cell (p := ⟨w5.heap.size, 1, none⟩) (show w5.heap.size < w10.heap.size by omega) (by first | (left; show w5.heap.size < _; omega) | (right; show _ ≤ w5.heap.size; omega) | (left; simp; done) | (left; simp; omega) | (right; simp; omega))).trans q10_10
    have q11_11 : w11.cell? ⟨w5.heap.size, 2, none⟩ = some (.slice akg R.pulls.length ckg) := (hc11.cell (p := ⟨w5.heap.size, 2, none⟩) (show w5.heap.size < w10.heap.size by omega) (by first | (left; show w5.heap.size < _; omega) | (right; show _ ≤ w5.heap.size; omega) | (left; simp; done) | (left; simp; omega) | (right; simp; omega))).trans q10_11
    have B0_11 : Hid (Below w.heap.size w w11) := (Below.trans B0_10.out (hc11.below (by first | omega | (simp; done) | (simp; omega) | (dsimp only; omega)) (by first | omega | (simp; done) | (simp; omega) | (dsimp only; omega))))
    have B3_11 : Hid (Below w3.heap.size w3 w11) := (Below.trans B3_10.out (hc11.below (by first | omega | (simp; done) | (simp; omega) | (dsimp only; omega)) (by first | omega | (simp; done) | (simp; omega) | (dsimp only; omega))))
    go_wp2_with fail
    refine (heldWorks_c _ R _ _ HM.out (by omega) (by omega)).mono ?_
    rintro e w12 ⟨rfl, hb12⟩
    have z12 : w11.heap.size ≤ w12.heap.size := by have := hb12.size; (try simp at this); omega
    have q12_0 : w12.cell? ⟨w.heap.size, 0, none⟩ = some (.int .i64 s) := by rw [hb12.cell (p := ⟨w.heap.size, 0, none⟩) (by first | omega | (simp; done) | (simp; omega) | (dsimp only; omega))]; first | exact q11_0 | (rw [World.cell?_alloc_past _ _ _ (by omega)]; exact q11_0) | (simp [go_sem]; done)
    have q12_1 : w12.cell? ⟨w.heap.size, 1, none⟩ = some (.slice ad gs.length cd) := by rw [hb12.cell (p := ⟨w.heap.size, 1, none⟩) (by first | omega | (simp; done) | (simp; omega) | (dsimp only; omega))]; first | exact q11_1 | (rw [World.cell?_alloc_past _ _ _ (by omega)]; exact q11_1) | (simp [go_sem]; done)
    have q12_2 : w12.cell? ⟨w.heap.size, 2, none⟩ = some (.slice ak ps.length ck) := by rw [hb12.cell (p := ⟨w.heap.size, 2, none⟩) (by first | omega | (simp; done) | (simp; omega) | (dsimp only; omega))]; first | exact q11_2 | (rw [World.cell?_alloc_past _ _ _ (by omega)]; exact q11_2) | (simp [go_sem]; done)
    have q12_3 : w12.cell? ⟨w3.heap.size, 0, none⟩ = some (.int .i64 R.size) := by rw [hb12.cell (p := ⟨w3.heap.size, 0, none⟩) (by first | omega | (simp; done) | (simp; omega) | (dsimp only; omega))]; first | exact q11_3 | (rw [World.cell?_alloc_past _ _ _ (by omega)]; exact q11_3) | (simp [go_sem]; done)
    have q12_4 : w12.cell? ⟨w3.heap.size, 1, none⟩ = some (.slice adw R.gates.length cdw) := by rw [hb12.cell (p := ⟨w3.heap.size, 1, none⟩) (by first | omega | (simp; done) | (simp; omega) | (dsimp only; omega))]; first | exact q11_4 | (rw [World.cell?_alloc_past _ _ _ (by omega)]; exact q11_4) | (simp [go_sem]; done)
    have q12_5 : w12.cell? ⟨w3.heap.size, 2, none⟩ = some (.slice akw R.pulls.length ckw) := by rw [hb12.cell (p := ⟨w3.heap.size, 2, none⟩) (by first | omega | (simp; done) | (simp; omega) | (dsimp only; omega))]; first | exact q11_5 | (rw [World.cell?_alloc_past _ _ _ (by omega)]; exact q11_5) | (simp [go_sem]; done)
    have q12_6 : w12.cell? ⟨w4.heap.size, 0, none⟩ = some (.int .i64 s) := by rw [hb12.cell (p := ⟨w4.heap.size, 0, none⟩) (by first | omega | (simp; done) | (simp; omega) | (dsimp only; omega))]; first | exact q11_6 | (rw [World.cell?_alloc_past _ _ _ (by omega)]; exact q11_6) | (simp [go_sem]; done)
    have q12_7 : w12.cell? ⟨w4.heap.size, 1, none⟩ = some (.slice ad4 gs.length cd4) := by rw [hb12.cell (p := ⟨w4.heap.size, 1, none⟩) (by first | omega | (simp; done) | (simp; omega) | (dsimp only; omega))]; first | exact q11_7 | (rw [World.cell?_alloc_past _ _ _ (by omega)]; exact q11_7) | (simp [go_sem]; done)
    have q12_8 : w12.cell? ⟨w4.heap.size, 2, none⟩ = some (.slice ak4 ps.length ck4) := by rw [hb12.cell (p := ⟨w4.heap.size, 2, none⟩) (by first | omega | (simp; done) | (simp; omega) | (dsimp only; omega))]; first | exact q11_8 | (rw [World.cell?_alloc_past _ _ _ (by omega)]; exact q11_8) | (simp [go_sem]; done)
    have q12_9 : w12.cell? ⟨w5.heap.size, 0, none⟩ = some (.int .i64 R.size) := by rw [hb12.cell (p := ⟨w5.heap.size, 0, none⟩) (by first | omega | (simp; done) | (simp; omega) | (dsimp only; omega))]; first | exact q11_9 | (rw [World.cell?_alloc_past _ _ _ (by omega)]; exact q11_9) | (simp [go_sem]; done)
    have q12_10 : w12.cell? ⟨w5.heap.size, 1, none⟩ = some (.slice adg R.gates.length cdg) := by rw [hb12.cell (p := ⟨w5.heap.size, 1, none⟩) (by first | omega | (simp; done) | (simp; omega) | (dsimp only; omega))]; first | exact q11_10 | (rw [World.cell?_alloc_past _ _ _ (by omega)]; exact q11_10) | (simp [go_sem]; done)
    have q12_11 : w12.cell? ⟨w5.heap.size, 2, none⟩ = some (.slice akg R.pulls.length ckg) := by rw [hb12.cell (p := ⟨w5.heap.size, 2, none⟩) (by first | omega | (simp; done) | (simp; omega) | (dsimp only; omega))]; first | exact q11_11 | (rw [World.cell?_alloc_past _ _ _ (by omega)]; exact q11_11) | (simp [go_sem]; done)
    have B0_12 : Hid (Below w.heap.size w w12) := (below_then B0_11.out hb12)
    have B3_12 : Hid (Below w3.heap.size w3 w12) := (below_then B3_11.out hb12)
    have B11_12 : Hid (Below w11.heap.size w11 w12) := (below_then (Below.refl _ _) hb12)
    go_wp2_with fail
    refine (toWorks_c _ _ _ (hm.later B0_12.out)).mono ?_
    rintro e w13 ⟨u13, rfl, ho13, hb13⟩
    have z13 : w12.heap.size ≤ w13.heap.size := by have := hb13.size; (try simp at this); omega
    have q13_0 : w13.cell? ⟨w.heap.size, 0, none⟩ = some (.int .i64 s) := by rw [hb13.cell (p := ⟨w.heap.size, 0, none⟩) (by first | omega | (simp; done) | (simp; omega) | (dsimp only; omega))]; first | exact q12_0 | (rw [World.cell?_alloc_past _ _ _ (by omega)]; exact q12_0) | (simp [go_sem]; done)
    have q13_1 : w13.cell? ⟨w.heap.size, 1, none⟩ = some (.slice ad gs.length cd) := by rw [hb13.cell (p := ⟨w.heap.size, 1, none⟩) (by first | omega | (simp; done) | (simp; omega) | (dsimp only; omega))]; first | exact q12_1 | (rw [World.cell?_alloc_past _ _ _ (by omega)]; exact q12_1) | (simp [go_sem]; done)
    have q13_2 : w13.cell? ⟨w.heap.size, 2, none⟩ = some (.slice ak ps.length ck) := by rw [hb13.cell (p := ⟨w.heap.size, 2, none⟩) (by first | omega | (simp; done) | (simp; omega) | (dsimp only; omega))]; first | exact q12_2 | (rw [World.cell?_alloc_past _ _ _ (by omega)]; exact q12_2) | (simp [go_sem]; done)
    have q13_3 : w13.cell? ⟨w3.heap.size, 0, none⟩ = some (.int .i64 R.size) := by rw [hb13.cell (p := ⟨w3.heap.size, 0, none⟩) (by first | omega | (simp; done) | (simp; omega) | (dsimp only; omega))]; first | exact q12_3 | (rw [World.cell?_alloc_past _ _ _ (by omega)]; exact q12_3) | (simp [go_sem]; done)
    have q13_4 : w13.cell? ⟨w3.heap.size, 1, none⟩ = some (.slice adw R.gates.length cdw) := by rw [hb13.cell (p := ⟨w3.heap.size, 1, none⟩) (by first | omega | (simp; done) | (simp; omega) | (dsimp only; omega))]; first | exact q12_4 | (rw [World.cell?_alloc_past _ _ _ (by omega)]; exact q12_4) | (simp [go_sem]; done)
    have q13_5 : w13.cell? ⟨w3.heap.size, 2, none⟩ = some (.slice akw R.pulls.length ckw) := by rw [hb13.cell (p := ⟨w3.heap.size, 2, none⟩) (by first | omega | (simp; done) | (simp; omega) | (dsimp only; omega))]; first | exact q12_5 | (rw [World.cell?_alloc_past _ _ _ (by omega)]; exact q12_5) | (simp [go_sem]; done)
    have q13_6 : w13.cell? ⟨w4.heap.size, 0, none⟩ = some (.int .i64 s) := by rw [hb13.cell (p := ⟨w4.heap.size, 0, none⟩) (by first | omega | (simp; done) | (simp; omega) | (dsimp only; omega))]; first | exact q12_6 | (rw [World.cell?_alloc_past _ _ _ (by omega)]; exact q12_6) | (simp [go_sem]; done)
    have q13_7 : w13.cell? ⟨w4.heap.size, 1, none⟩ = some (.slice ad4 gs.length cd4) := by rw [hb13.cell (p := ⟨w4.heap.size, 1, none⟩) (by first | omega | (simp; done) | (simp; omega) | (dsimp only; omega))]; first | exact q12_7 | (rw [World.cell?_alloc_past _ _ _ (by omega)]; exact q12_7) | (simp [go_sem]; done)
    have q13_8 : w13.cell? ⟨w4.heap.size, 2, none⟩ = some (.slice ak4 ps.length ck4) := by rw [hb13.cell (p := ⟨w4.heap.size, 2, none⟩) (by first | omega | (simp; done) | (simp; omega) | (dsimp only; omega))]; first | exact q12_8 | (rw [World.cell?_alloc_past _ _ _ (by omega)]; exact q12_8) | (simp [go_sem]; done)
    have q13_9 : w13.cell? ⟨w5.heap.size, 0, none⟩ = some (.int .i64 R.size) := by rw [hb13.cell (p := ⟨w5.heap.size, 0, none⟩) (by first | omega | (simp; done) | (simp; omega) | (dsimp only; omega))]; first | exact q12_9 | (rw [World.cell?_alloc_past _ _ _ (by omega)]; exact q12_9) | (simp [go_sem]; done)
    have q13_10 : w13.cell? ⟨w5.heap.size, 1, none⟩ = some (.slice adg R.gates.length cdg) := by rw [hb13.cell (p := ⟨w5.heap.size, 1, none⟩) (by first | omega | (simp; done) | (simp; omega) | (dsimp only; omega))]; first | exact q12_10 | (rw [World.cell?_alloc_past _ _ _ (by omega)]; exact q12_10) | (simp [go_sem]; done)
    have q13_11 : w13.cell? ⟨w5.heap.size, 2, none⟩ = some (.slice akg R.pulls.length ckg) := by rw [hb13.cell (p := ⟨w5.heap.size, 2, none⟩) (by first | omega | (simp; done) | (simp; omega) | (dsimp only; omega))]; first | exact q12_11 | (rw [World.cell?_alloc_past _ _ _ (by omega)]; exact q12_11) | (simp [go_sem]; done)
    have B0_13 : Hid (Below w.heap.size w w13) := (below_then B0_12.out hb13)
    have B3_13 : Hid (Below w3.heap.size w3 w13) := (below_then B3_12.out hb13)
    have B11_13 : Hid (Below w11.heap.size w11 w13) := (below_then B11_12.out hb13)
    have HO13 := Lib.hid ho13; clear ho13
    go_wp2_with fail
    refine (implTurnLevers_c _ ⟨s, gs, ps⟩ _ _ R b HP.out ((HO13.out.wk n1 n2).later (Below.refl _ _)) wi1).mono ?_
    rintro e w14 ⟨vh, rfl, hoh, hb14⟩
    have z14 : w13.heap.size ≤ w14.heap.size := by have := hb14.size; (try simp at this); omega
    have q14_0 : w14.cell? ⟨w.heap.size, 0, none⟩ = some (.int .i64 s) := by rw [hb14.cell (p := ⟨w.heap.size, 0, none⟩) (by first | omega | (simp; done) | (simp; omega) | (dsimp only; omega))]; first | exact q13_0 | (rw [World.cell?_alloc_past _ _ _ (by omega)]; exact q13_0) | (simp [go_sem]; done)
    have q14_1 : w14.cell? ⟨w.heap.size, 1, none⟩ = some (.slice ad gs.length cd) := by rw [hb14.cell (p := ⟨w.heap.size, 1, none⟩) (by first | omega | (simp; done) | (simp; omega) | (dsimp only; omega))]; first | exact q13_1 | (rw [World.cell?_alloc_past _ _ _ (by omega)]; exact q13_1) | (simp [go_sem]; done)
    have q14_2 : w14.cell? ⟨w.heap.size, 2, none⟩ = some (.slice ak ps.length ck) := by rw [hb14.cell (p := ⟨w.heap.size, 2, none⟩) (by first | omega | (simp; done) | (simp; omega) | (dsimp only; omega))]; first | exact q13_2 | (rw [World.cell?_alloc_past _ _ _ (by omega)]; exact q13_2) | (simp [go_sem]; done)
    have q14_3 : w14.cell? ⟨w3.heap.size, 0, none⟩ = some (.int .i64 R.size) := by rw [hb14.cell (p := ⟨w3.heap.size, 0, none⟩) (by first | omega | (simp; done) | (simp; omega) | (dsimp only; omega))]; first | exact q13_3 | (rw [World.cell?_alloc_past _ _ _ (by omega)]; exact q13_3) | (simp [go_sem]; done)
    have q14_4 : w14.cell? ⟨w3.heap.size, 1, none⟩ = some (.slice adw R.gates.length cdw) := by rw [hb14.cell (p := ⟨w3.heap.size, 1, none⟩) (by first | omega | (simp; done) | (simp; omega) | (dsimp only; omega))]; first | exact q13_4 | (rw [World.cell?_alloc_past _ _ _ (by omega)]; exact q13_4) | (simp [go_sem]; done)
    have q14_5 : w14.cell? ⟨w3.heap.size, 2, none⟩ = some (.slice akw R.pulls.length ckw) := by rw [hb14.cell (p := ⟨w3.heap.size, 2, none⟩) (by first | omega | (simp; done) | (simp; omega) | (dsimp only; omega))]; first | exact q13_5 | (rw [World.cell?_alloc_past _ _ _ (by omega)]; exact q13_5) | (simp [go_sem]; done)
    have q14_6 : w14.cell? ⟨w4.heap.size, 0, none⟩ = some (.int .i64 s) := by rw [hb14.cell (p := ⟨w4.heap.size, 0, none⟩) (by first | omega | (simp; done) | (simp; omega) | (dsimp only; omega))]; first | exact q13_6 | (rw [World.cell?_alloc_past _ _ _ (by omega)]; exact q13_6) | (simp [go_sem]; done)
    have q14_7 : w14.cell? ⟨w4.heap.size, 1, none⟩ = some (.slice ad4 gs.length cd4) := by rw [hb14.cell (p := ⟨w4.heap.size, 1, none⟩) (by first | omega | (simp; done) | (simp; omega) | (dsimp only; omega))]; first | exact q13_7 | (rw [World.cell?_alloc_past _ _ _ (by omega)]; exact q13_7) | (simp [go_sem]; done)
    have q14_8 : w14.cell? ⟨w4.heap.size, 2, none⟩ = some (.slice ak4 ps.length ck4) := by rw [hb14.cell (p := ⟨w4.heap.size, 2, none⟩) (by first | omega | (simp; done) | (simp; omega) | (dsimp only; omega))]; first | exact q13_8 | (rw [World.cell?_alloc_past _ _ _ (by omega)]; exact q13_8) | (simp [go_sem]; done)
    have q14_9 : w14.cell? ⟨w5.heap.size, 0, none⟩ = some (.int .i64 R.size) := by rw [hb14.cell (p := ⟨w5.heap.size, 0, none⟩) (by first | omega | (simp; done) | (simp; omega) | (dsimp only; omega))]; first | exact q13_9 | (rw [World.cell?_alloc_past _ _ _ (by omega)]; exact q13_9) | (simp [go_sem]; done)
    have q14_10 : w14.cell? ⟨w5.heap.size, 1, none⟩ = some (.slice adg R.gates.length cdg) := by rw [hb14.cell (p := ⟨w5.heap.size, 1, none⟩) (by first | omega | (simp; done) | (simp; omega) | (dsimp only; omega))]; first | exact q13_10 | (rw [World.cell?_alloc_past _ _ _ (by omega)]; exact q13_10) | (simp [go_sem]; done)
    have q14_11 : w14.cell? ⟨w5.heap.size, 2, none⟩ = some (.slice akg R.pulls.length ckg) := by rw [hb14.cell (p := ⟨w5.heap.size, 2, none⟩) (by first | omega | (simp; done) | (simp; omega) | (dsimp only; omega))]; first | exact q13_11 | (rw [World.cell?_alloc_past _ _ _ (by omega)]; exact q13_11) | (simp [go_sem]; done)
    have B0_14 : Hid (Below w.heap.size w w14) := (below_then B0_13.out hb14)
    have B3_14 : Hid (Below w3.heap.size w3 w14) := (below_then B3_13.out hb14)
    have B11_14 : Hid (Below w11.heap.size w11 w14) := (below_then B11_13.out hb14)
    have B13_14 : Hid (Below w13.heap.size w13 w14) := (below_then (Below.refl _ _) hb14)
    have HH := Lib.hid hoh; clear hoh
    obtain ⟨eh3, eh1, vdh, vkh, huh, oh3, oh1, haph⟩ := HH.out
    obtain ⟨adh, cdh, rfl⟩ := oh3.slice
    obtain ⟨akh, ckh, rfl⟩ := oh1.slice
    subst huh
    clear oh3 oh1 haph
    have a14_0 := (World.cell?_alloc_lt w14 (.cells #[.int .i64 R.size, .slice adh R.gates.length cdh, .slice akh R.pulls.length ckh] 40) ⟨w.heap.size, 0, none⟩ (show w.heap.size < w14.heap.size by omega)).trans q14_0
    have a14_1 := (World.cell?_alloc_lt w14 (.cells #[.int .i64 R.size, .slice adh R.gates.length cdh, .slice akh R.pulls.length ckh] 40) ⟨w.heap.size, 1, none⟩ (show w.heap.size < w14.heap.size by omega)).trans q14_1
    have a14_2 := (World.cell?_alloc_lt w14 (.cells #[.int .i64 R.size, .slice adh R.gates.length cdh, .slice akh R.pulls.length ckh] 40) ⟨w.heap.size, 2, none⟩ (show w.heap.size < w14.heap.size by omega)).trans q14_2
    have a14_3 := (World.cell?_alloc_lt w14 (.cells #[.int .i64 R.size, .slice adh R.gates.length cdh, .slice akh R.pulls.length ckh] 40) ⟨w3.heap.size, 0, none⟩ (show w3.heap.size < w14.heap.size by omega)).trans q14_3
    have a14_4 := (World.cell?_alloc_lt w14 (.cells #[.int .i64 R.size, .slice adh R.gates.length cdh, .slice akh R.pulls.length ckh] 40) ⟨w3.heap.size, 1, none⟩ (show w3.heap.size < w14.heap.size by omega)).trans q14_4
    have a14_5 := (World.cell?_alloc_lt w14 (.cells #[.int .i64 R.size, .slice adh R.gates.length cdh, .slice akh R.pulls.length ckh] 40) ⟨w3.heap.size, 2, none⟩ (show w3.heap.size < w14.heap.size by omega)).trans q14_5
    have a14_6 := (World.cell?_alloc_lt w14 (.cells #[.int .i64 R.size, .slice adh R.gates.length cdh, .slice akh R.pulls.length ckh] 40) ⟨w4.heap.size, 0, none⟩ (show w4.heap.size < w14.heap.size by omega)).trans q14_6
    have a14_7 := (World.cell?_alloc_lt w14 (.cells #[.int .i64 R.size, .slice adh R.gates.length cdh, .slice akh R.pulls.length ckh] 40) ⟨w4.heap.size, 1, none⟩ (show w4.heap.size < w14.heap.size by omega)).trans q14_7
    have a14_8 := (World.cell?_alloc_lt w14 (.cells #[.int .i64 R.size, .slice adh R.gates.length cdh, .slice akh R.pulls.length ckh] 40) ⟨w4.heap.size, 2, none⟩ (show w4.heap.size < w14.heap.size by omega)).trans q14_8
    have a14_9 := (World.cell?_alloc_lt w14 (.cells #[.int .i64 R.size, .slice adh R.gates.length cdh, .slice akh R.pulls.length ckh] 40) ⟨w5.heap.size, 0, none⟩ (show w5.heap.size < w14.heap.size by omega)).trans q14_9
    have a14_10 := (World.cell?_alloc_lt w14 (.cells #[.int .i64 R.size, .slice adh R.gates.length cdh, .slice akh R.pulls.length ckh] 40) ⟨w5.heap.size, 1, none⟩ (show w5.heap.size < w14.heap.size by omega)).trans q14_10
    have a14_11 := (World.cell?_alloc_lt w14 (.cells #[.int .i64 R.size, .slice adh R.gates.length cdh, .slice akh R.pulls.length ckh] 40) ⟨w5.heap.size, 2, none⟩ (show w5.heap.size < w14.heap.size by omega)).trans q14_11
    go_wp2_with fail
    refine (eqWorks_c _ _ R R _ ((HH.out.wk (by omega) (by omega)).later (Below.alloc (Below.refl _ _) (by first | omega | (simp; done) | (simp; omega) | (dsimp only; omega)) _)) (HW.out.later (Below.alloc B3_14.out (by first | omega | (simp; done) | (simp; omega) | (dsimp only; omega)) _))).mono ?_
    rintro e w15 ⟨rfl, hb15⟩
    have z15 : w14.heap.size + 1 ≤ w15.heap.size := by have := hb15.size; (try simp at this); omega
    have q15_0 : w15.cell? ⟨w.heap.size, 0, none⟩ = some (.int .i64 s) := by rw [hb15.cell (p := ⟨w.heap.size, 0, none⟩) (by first | omega | (simp; done) | (simp; omega) | (dsimp only; omega))]; first | exact q14_0 | (rw [World.cell?_alloc_past _ _ _ (by omega)]; exact q14_0) | (simp [go_sem]; done)
    have q15_1 : w15.cell? ⟨w.heap.size, 1, none⟩ = some (.slice ad gs.length cd) := by rw [hb15.cell (p := ⟨w.heap.size, 1, none⟩) (by first | omega | (simp; done) | (simp; omega) | (dsimp only; omega))]; first | exact q14_1 | (rw [World.cell?_alloc_past _ _ _ (by omega)]; exact q14_1) | (simp [go_sem]; done)
    have q15_2 : w15.cell? ⟨w.heap.size, 2, none⟩ = some (.slice ak ps.length ck) := by rw [hb15.cell (p := ⟨w.heap.size, 2, none⟩) (by first | omega | (simp; done) | (simp; omega) | (dsimp only; omega))]; first | exact q14_2 | (rw [World.cell?_alloc_past _ _ _ (by omega)]; exact q14_2) | (simp [go_sem]; done)
    have q15_3 : w15.cell? ⟨w3.heap.size, 0, none⟩ = some (.int .i64 R.size) := by rw [hb15.cell (p := ⟨w3.heap.size, 0, none⟩) (by first | omega | (simp; done) | (simp; omega) | (dsimp only; omega))]; first | exact q14_3 | (rw [World.cell?_alloc_past _ _ _ (by omega)]; exact q14_3) | (simp [go_sem]; done)
    have q15_4 : w15.cell? ⟨w3.heap.size, 1, none⟩ = some (.slice adw R.gates.length cdw) := by rw [hb15.cell (p := ⟨w3.heap.size, 1, none⟩) (by first | omega | (simp; done) | (simp; omega) | (dsimp only; omega))]; first | exact q14_4 | (rw [World.cell?_alloc_past _ _ _ (by omega)]; exact q14_4) | (simp [go_sem]; done)
    have q15_5 : w15.cell? ⟨w3.heap.size, 2, none⟩ = some (.slice akw R.pulls.length ckw) := by rw [hb15.cell (p := ⟨w3.heap.size, 2, none⟩) (by first | omega | (simp; done) | (simp; omega) | (dsimp only; omega))]; first | exact q14_5 | (rw [World.cell?_alloc_past _ _ _ (by omega)]; exact q14_5) | (simp [go_sem]; done)
    have q15_6 : w15.cell? ⟨w4.heap.size, 0, none⟩ = some (.int .i64 s) := by rw [hb15.cell (p := ⟨w4.heap.size, 0, none⟩) (by first | omega | (simp; done) | (simp; omega) | (dsimp only; omega))]; first | exact q14_6 | (rw [World.cell?_alloc_past _ _ _ (by omega)]; exact q14_6) | (simp [go_sem]; done)
    have q15_7 : w15.cell? ⟨w4.heap.size, 1, none⟩ = some (.slice ad4 gs.length cd4) := by rw [hb15.cell (p := ⟨w4.heap.size, 1, none⟩) (by first | omega | (simp; done) | (simp; omega) | (dsimp only; omega))]; first | exact q14_7 | (rw [World.cell?_alloc_past _ _ _ (by omega)]; exact q14_7) | (simp [go_sem]; done)
    have q15_8 : w15.cell? ⟨w4.heap.size, 2, none⟩ = some (.slice ak4 ps.length ck4) := by rw [hb15.cell (p := ⟨w4.heap.size, 2, none⟩) (by first | omega | (simp; done) | (simp; omega) | (dsimp only; omega))]; first | exact q14_8 | (rw [World.cell?_alloc_past _ _ _ (by omega)]; exact q14_8) | (simp [go_sem]; done)
    have q15_9 : w15.cell? ⟨w5.heap.size, 0, none⟩ = some (.int .i64 R.size) := by rw [hb15.cell (p := ⟨w5.heap.size, 0, none⟩) (by first | omega | (simp; done) | (simp; omega) | (dsimp only; omega))]; first | exact q14_9 | (rw [World.cell?_alloc_past _ _ _ (by omega)]; exact q14_9) | (simp [go_sem]; done)
    have q15_10 : w15.cell? ⟨w5.heap.size, 1, none⟩ = some (.slice adg R.gates.length cdg) := by rw [hb15.cell (p := ⟨w5.heap.size, 1, none⟩) (by first | omega | (simp; done) | (simp; omega) | (dsimp only; omega))]; first | exact q14_10 | (rw [World.cell?_alloc_past _ _ _ (by omega)]; exact q14_10) | (simp [go_sem]; done)
    have q15_11 : w15.cell? ⟨w5.heap.size, 2, none⟩ = some (.slice akg R.pulls.length ckg) := by rw [hb15.cell (p := ⟨w5.heap.size, 2, none⟩) (by first | omega | (simp; done) | (simp; omega) | (dsimp only; omega))]; first | exact q14_11 | (rw [World.cell?_alloc_past _ _ _ (by omega)]; exact q14_11) | (simp [go_sem]; done)
    have B0_15 : Hid (Below w.heap.size w w15) := (below_then (Below.alloc B0_14.out (by first | omega | (simp; done) | (simp; omega) | (dsimp only; omega)) _) hb15)
    have B3_15 : Hid (Below w3.heap.size w3 w15) := (below_then (Below.alloc B3_14.out (by first | omega | (simp; done) | (simp; omega) | (dsimp only; omega)) _) hb15)
    have B11_15 : Hid (Below w11.heap.size w11 w15) := (below_then (Below.alloc B11_14.out (by first | omega | (simp; done) | (simp; omega) | (dsimp only; omega)) _) hb15)
    go_wp2_with fail
    refine (heldWorks_c _ R _ _ (HM.out.later B11_15.out) (by omega) (by omega)).mono ?_
    rintro e w16 ⟨rfl, hb16⟩
    have z16 : w15.heap.size ≤ w16.heap.size := by have := hb16.size; (try simp at this); omega
    have q16_0 : w16.cell? ⟨w.heap.size, 0, none⟩ = some (.int .i64 s) := by rw [hb16.cell (p := ⟨w.heap.size, 0, none⟩) (by first | omega | (simp; done) | (simp; omega) | (dsimp only; omega))]; first | exact q15_0 | (rw [World.cell?_alloc_past _ _ _ (by omega)]; exact q15_0) | (simp [go_sem]; done)
    have q16_1 : w16.cell? ⟨w.heap.size, 1, none⟩ = some (.slice ad gs.length cd) := by rw [hb16.cell (p := ⟨w.heap.size, 1, none⟩) (by first | omega | (simp; done) | (simp; omega) | (dsimp only; omega))]; first | exact q15_1 | (rw [World.cell?_alloc_past _ _ _ (by omega)]; exact q15_1) | (simp [go_sem]; done)
    have q16_2 : w16.cell? ⟨w.heap.size, 2, none⟩ = some (.slice ak ps.length ck) := by rw [hb16.cell (p := ⟨w.heap.size, 2, none⟩) (by first | omega | (simp; done) | (simp; omega) | (dsimp only; omega))]; first | exact q15_2 | (rw [World.cell?_alloc_past _ _ _ (by omega)]; exact q15_2) | (simp [go_sem]; done)
    have q16_3 : w16.cell? ⟨w3.heap.size, 0, none⟩ = some (.int .i64 R.size) := by rw [hb16.cell (p := ⟨w3.heap.size, 0, none⟩) (by first | omega | (simp; done) | (simp; omega) | (dsimp only; omega))]; first | exact q15_3 | (rw [World.cell?_alloc_past _ _ _ (by omega)]; exact q15_3) | (simp [go_sem]; done)
    have q16_4 : w16.cell? ⟨w3.heap.size, 1, none⟩ = some (.slice adw R.gates.length cdw) := by rw [hb16.cell (p := ⟨w3.heap.size, 1, none⟩) (by first | omega | (simp; done) | (simp; omega) | (dsimp only; omega))]; first | exact q15_4 | (rw [World.cell?_alloc_past _ _ _ (by omega)]; exact q15_4) | (simp [go_sem]; done)
    have q16_5 : w16.cell? ⟨w3.heap.size, 2, none⟩ = some (.slice akw R.pulls.length ckw) := by rw [hb16.cell (p := ⟨w3.heap.size, 2, none⟩) (by first | omega | (simp; done) | (simp; omega) | (dsimp only; omega))]; first | exact q15_5 | (rw [World.cell?_alloc_past _ _ _ (by omega)]; exact q15_5) | (simp [go_sem]; done)
    have q16_6 : w16.cell? ⟨w4.heap.size, 0, none⟩ = some (.int .i64 s) := by rw [hb16.cell (p := ⟨w4.heap.size, 0, none⟩) (by first | omega | (simp; done) | (simp; omega) | (dsimp only; omega))]; first | exact q15_6 | (rw [World.cell?_alloc_past _ _ _ (by omega)]; exact q15_6) | (simp [go_sem]; done)
    have q16_7 : w16.cell? ⟨w4.heap.size, 1, none⟩ = some (.slice ad4 gs.length cd4) := by rw [hb16.cell (p := ⟨w4.heap.size, 1, none⟩) (by first | omega | (simp; done) | (simp; omega) | (dsimp only; omega))]; first | exact q15_7 | (rw [World.cell?_alloc_past _ _ _ (by omega)]; exact q15_7) | (simp [go_sem]; done)
    have q16_8 : w16.cell? ⟨w4.heap.size, 2, none⟩ = some (.slice ak4 ps.length ck4) := by rw [hb16.cell (p := ⟨w4.heap.size, 2, none⟩) (by first | omega | (simp; done) | (simp; omega) | (dsimp only; omega))]; first | exact q15_8 | (rw [World.cell?_alloc_past _ _ _ (by omega)]; exact q15_8) | (simp [go_sem]; done)
    have q16_9 : w16.cell? ⟨w5.heap.size, 0, none⟩ = some (.int .i64 R.size) := by rw [hb16.cell (p := ⟨w5.heap.size, 0, none⟩) (by first | omega | (simp; done) | (simp; omega) | (dsimp only; omega))]; first | exact q15_9 | (rw [World.cell?_alloc_past _ _ _ (by omega)]; exact q15_9) | (simp [go_sem]; done)
    have q16_10 : w16.cell? ⟨w5.heap.size, 1, none⟩ = some (.slice adg R.gates.length cdg) := by rw [hb16.cell (p := ⟨w5.heap.size, 1, none⟩) (by first | omega | (simp; done) | (simp; omega) | (dsimp only; omega))]; first | exact q15_10 | (rw [World.cell?_alloc_past _ _ _ (by omega)]; exact q15_10) | (simp [go_sem]; done)
    have q16_11 : w16.cell? ⟨w5.heap.size, 2, none⟩ = some (.slice akg R.pulls.length ckg) := by rw [hb16.cell (p := ⟨w5.heap.size, 2, none⟩) (by first | omega | (simp; done) | (simp; omega) | (dsimp only; omega))]; first | exact q15_11 | (rw [World.cell?_alloc_past _ _ _ (by omega)]; exact q15_11) | (simp [go_sem]; done)
    have B0_16 : Hid (Below w.heap.size w w16) := (below_then B0_15.out hb16)
    have B3_16 : Hid (Below w3.heap.size w3 w16) := (below_then B3_15.out hb16)
    have B11_16 : Hid (Below w11.heap.size w11 w16) := (below_then B11_15.out hb16)
    go_wp2_with fail
    go_ret
    exact ⟨rfl, B0_16.out⟩
end Go.Proofs.Ytldogbahbjompaa
