/- DoAct. -/
import Derived.Test.YtkhackdbnmcffaaKdActsAt
import Derived.Deep.QuietTactic
import Derived.BigQuiet
import Derived.OwnWalk
set_option linter.unusedVariables false
set_option linter.unusedSimpArgs false
namespace Go.KD
def doP (m : Wk) (x l a : Int) : Int × Int := if a < 0 then (x, xorV l m.pulls[x.toNat]!) else (a, l)
noncomputable def pDoAct (m : Wk) (x l a : Int) : Int × Int × Bool := if visitB m x l && hasI (actsL m x l) a then ((doP m x l a).1, (doP m x l a).2, true) else (0, 0, false)
end Go.KD
namespace Go.Proofs.Ytkhackdbnmcffaa
open Go.RowKit Go.KD
attribute [local go_sem] later_cell later_frozen
set_option maxHeartbeats 1000000 in
theorem behind_c (v : Value) (m : Wk) (x l : Nat) (a : Int) (w : World) (hm : WkAt w v m) (ok : WkOk m) (hx : (x : Int) < m.size) (hl : l < 64) :
    Calls Try.prog 78 #[v, .int .i64 x, .int .i64 l, .int .i64 a] w fun e w' => e = .returned (.tuple #[.int .i64 (doP m x l a).1, .int .i64 (doP m x l a).2]) ∧ Below w.heap.size w w' := by
  have hM := hm
  obtain ⟨⟨ad, cd, ak, ck, rfl, hd, hk'⟩, nd, nk⟩ := hM
  have hnp : x < m.pulls.length := by have := ok.np; omega
  have hpl := ok.pl x hnp
  obtain ⟨s, gs, ps⟩ := m
  dsimp only at *
  have OK := Lib.hid ok; clear ok
  have hs2 : s ≤ 12 := OK.out.s2
  have hx12 : x < 12 := by omega
  obtain ⟨bp, offp, pv, rfl, HX, hbs, ep⟩ := hk'.at x hnp
  rw [HX.out] at hpl
  obtain ⟨hp0, hp1⟩ := setB_true.1 hpl
  clear hpl
  have ex : bits .xor .i64 (l : Int) pv = xorV l pv := xorV_bits (by omega) (by omega)
  have hxn : (x : Int) < (ps.length : Int) := by omega
  have hbs1 : bp < w.heap.size + 1 := by omega
  cases p0 : decide (a < 0)
  · have HD : Hid (doP ⟨s, gs, ps⟩ x l a = (a, (l : Int))) := by show _ = _; simp only [decide_eq_false_iff_not] at p0; simp [doP, p0]
    go_enter Try.func78, Try.ntmps78
    go_wp2
    go_ret2
    exact ⟨ret_tup2 (by rw [HD.out] <;> rfl), by (repeat (first | exact Below.refl _ _ | apply Below.drew | apply below_drewN | (refine Below.setCell ?_ (by first | omega | (simp; done) | (simp; omega) | (dsimp only; omega)) _) | (refine Below.alloc ?_ (by first | omega | (simp; done) | (simp; omega) | (dsimp only; omega)) _)))⟩
  · have HD : Hid (doP ⟨s, gs, ps⟩ x l a = ((x : Int), xorV l pv)) := by show _ = _; simp only [decide_eq_true_eq] at p0; simp [doP, p0, HX.out]
    go_enter Try.func78, Try.ntmps78
    go_wp2
    go_quiet (fail)
    go_wp2
    go_ret2
    exact ⟨ret_tup2 (by rw [HD.out] <;> rfl), by (repeat (first | exact Below.refl _ _ | apply Below.drew | apply below_drewN | (refine Below.setCell ?_ (by first | omega | (simp; done) | (simp; omega) | (dsimp only; omega)) _) | (refine Below.alloc ?_ (by first | omega | (simp; done) | (simp; omega) | (dsimp only; omega)) _)))⟩
set_option maxHeartbeats 1000000 in
theorem l8Do_c (v : Value) (m : Wk) (x l : Nat) (a : Int) (w : World) (hm : WkAt w v m) (ok : WkOk m) (hx : (x : Int) < m.size) (hl : l < 64) :
    Calls Try.prog 85 #[v, .int .i64 x, .int .i64 l, .int .i64 a] w fun e w' => e = .returned (.tuple #[.int .i64 (doP m x l a).1, .int .i64 (doP m x l a).2]) ∧ Below w.heap.size w w' := by
  have hM := hm
  obtain ⟨⟨ad, cd, ak, ck, rfl, hd, hk'⟩, nd, nk⟩ := hM
  have hnp : x < m.pulls.length := by have := ok.np; omega
  have hpl := ok.pl x hnp
  obtain ⟨s, gs, ps⟩ := m
  dsimp only at *
  have OK := Lib.hid ok; clear ok
  have hs2 : s ≤ 12 := OK.out.s2
  have hx12 : x < 12 := by omega
  obtain ⟨bp, offp, pv, rfl, HX, hbs, ep⟩ := hk'.at x hnp
  rw [HX.out] at hpl
  obtain ⟨hp0, hp1⟩ := setB_true.1 hpl
  clear hpl
  have ex : bits .xor .i64 (l : Int) pv = xorV l pv := xorV_bits (by omega) (by omega)
  have hxn : (x : Int) < (ps.length : Int) := by omega
  have hbs1 : bp < w.heap.size + 1 := by omega
  cases p0 : decide (a < 0)
  · have HD : Hid (doP ⟨s, gs, ps⟩ x l a = (a, (l : Int))) := by show _ = _; simp only [decide_eq_false_iff_not] at p0; simp [doP, p0]
    go_enter Try.func85, Try.ntmps85
    go_wp2
    go_ret2
    exact ⟨ret_tup2 (by rw [HD.out] <;> rfl), by (repeat (first | exact Below.refl _ _ | apply Below.drew | apply below_drewN | (refine Below.setCell ?_ (by first | omega | (simp; done) | (simp; omega) | (dsimp only; omega)) _) | (refine Below.alloc ?_ (by first | omega | (simp; done) | (simp; omega) | (dsimp only; omega)) _)))⟩
  · have HD : Hid (doP ⟨s, gs, ps⟩ x l a = ((x : Int), xorV l pv)) := by show _ = _; simp only [decide_eq_true_eq] at p0; simp [doP, p0, HX.out]
    go_enter Try.func85, Try.ntmps85
    go_wp2
    go_quiet (fail)
    go_wp2
    go_ret2
    exact ⟨ret_tup2 (by rw [HD.out] <;> rfl), by (repeat (first | exact Below.refl _ _ | apply Below.drew | apply below_drewN | (refine Below.setCell ?_ (by first | omega | (simp; done) | (simp; omega) | (dsimp only; omega)) _) | (refine Below.alloc ?_ (by first | omega | (simp; done) | (simp; omega) | (dsimp only; omega)) _)))⟩
set_option maxHeartbeats 1000000 in
theorem specDoAct_c (v : Value) (m : Wk) (x l a : Int) (w : World) (hm : WkAt w v m) (wx : wfI x) (wl : wfI l) (wa : wfI a) :
    Calls Try.prog 46 #[v, .int .i64 x, .int .i64 l, .int .i64 a] w fun e w' => e = .returned (.tuple #[.int .i64 (pDoAct m x l a).1, .int .i64 (pDoAct m x l a).2.1, .bool (pDoAct m x l a).2.2]) ∧ Below w.heap.size w w' := by
  have hM := hm
  obtain ⟨⟨ad, cd, ak, ck, rfl, hd, hk'⟩, nd, nk⟩ := hM
  cases g : visitB m x l
  case false =>
    have HD : Hid (pDoAct m x l a = (0, 0, false)) := by show _ = _; simp [pDoAct, g]
    go_enter Try.func46, Try.ntmps46
    go_wp2_with fail
    refine (l8Visit_c _ m _ _ _ (hm.later (by (repeat (first | exact Below.refl _ _ | apply Below.drew | apply below_drewN | (refine Below.setCell ?_ (by first | omega | (simp; done) | (simp; omega) | (dsimp only; omega)) _) | (refine Below.alloc ?_ (by first | omega | (simp; done) | (simp; omega) | (dsimp only; omega)) _)))))).mono ?_
    rintro e w1 ⟨rfl, hb1⟩
    have HB1 : Hid (Below w.heap.size w w1) := below_then (by (repeat (first | exact Below.refl _ _ | apply Below.drew | apply below_drewN | (refine Below.setCell ?_ (by first | omega | (simp; done) | (simp; omega) | (dsimp only; omega)) _) | (refine Below.alloc ?_ (by first | omega | (simp; done) | (simp; omega) | (dsimp only; omega)) _)))) hb1
    obtain ⟨hc1, hf1, hz1⟩ := bcell3 hb1
    rw [g]
    go_wp2_with fail
    go_ret3
    exact ⟨ret_tup2 (by rw [HD.out] <;> rfl), HB1.out⟩
  case true =>
    obtain ⟨ok, xn, ln, rfl, rfl, hx, hl⟩ := visit_parts g
    have OK := Lib.hid ok; clear ok
    have h41 := actsL_len m xn ln
    cases p1 : hasI (actsL m xn ln) a
    case false =>
      have HD : Hid (pDoAct m xn ln a = (0, 0, false)) := by show _ = _; simp [pDoAct, g, p1]
      go_enter Try.func46, Try.ntmps46
      go_wp2_with fail
      refine (l8Visit_c _ m _ _ _ (hm.later (by (repeat (first | exact Below.refl _ _ | apply Below.drew | apply below_drewN | (refine Below.setCell ?_ (by first | omega | (simp; done) | (simp; omega) | (dsimp only; omega)) _) | (refine Below.alloc ?_ (by first | omega | (simp; done) | (simp; omega) | (dsimp only; omega)) _)))))).mono ?_
      rintro e w1 ⟨rfl, hb1⟩
      have HB1 : Hid (Below w.heap.size w w1) := below_then (by (repeat (first | exact Below.refl _ _ | apply Below.drew | apply below_drewN | (refine Below.setCell ?_ (by first | omega | (simp; done) | (simp; omega) | (dsimp only; omega)) _) | (refine Below.alloc ?_ (by first | omega | (simp; done) | (simp; omega) | (dsimp only; omega)) _)))) hb1
      obtain ⟨hc1, hf1, hz1⟩ := bcell3 hb1
      rw [g]
      go_wp2_with fail
      refine (l8Acts_c _ m xn ln _ (hm.later HB1.out) OK.out hx hl).mono ?_
      rintro e w2 ⟨u, rfl, ⟨bu, ou, cu, rfl, hi, -, -⟩, hb2⟩
      have HI := Lib.hid hi; clear hi
      go_wp2_with fail
      refine (l1Has_c _ _ _ (actsL m xn ln) _ _ rfl HI.out (by omega)).mono ?_
      rintro e w3 ⟨rfl, rfl⟩
      rw [p1]
      go_wp2_with fail
      go_ret3
      exact ⟨ret_tup2 (by rw [HD.out] <;> rfl), below_then HB1.out hb2⟩

    case true =>
      have HD : Hid (pDoAct m xn ln a = ((doP m xn ln a).1, (doP m xn ln a).2, true)) := by show _ = _; simp [pDoAct, g, p1]
      go_enter Try.func46, Try.ntmps46
      go_wp2_with fail
      refine (l8Visit_c _ m _ _ _ (hm.later (by (repeat (first | exact Below.refl _ _ | apply Below.drew | apply below_drewN | (refine Below.setCell ?_ (by first | omega | (simp; done) | (simp; omega) | (dsimp only; omega)) _) | (refine Below.alloc ?_ (by first | omega | (simp; done) | (simp; omega) | (dsimp only; omega)) _)))))).mono ?_
      rintro e w1 ⟨rfl, hb1⟩
      have HB1 : Hid (Below w.heap.size w w1) := below_then (by (repeat (first | exact Below.refl _ _ | apply Below.drew | apply below_drewN | (refine Below.setCell ?_ (by first | omega | (simp; done) | (simp; omega) | (dsimp only; omega)) _) | (refine Below.alloc ?_ (by first | omega | (simp; done) | (simp; omega) | (dsimp only; omega)) _)))) hb1
      obtain ⟨hc1, hf1, hz1⟩ := bcell3 hb1
      rw [g]
      go_wp2_with fail
      refine (l8Acts_c _ m xn ln _ (hm.later HB1.out) OK.out hx hl).mono ?_
      rintro e w2 ⟨u, rfl, ⟨bu, ou, cu, rfl, hi, -, -⟩, hb2⟩
      have HI := Lib.hid hi; clear hi
      go_wp2_with fail
      refine (l1Has_c _ _ _ (actsL m xn ln) _ _ rfl HI.out (by omega)).mono ?_
      rintro e w3 ⟨rfl, rfl⟩
      rw [p1]
      have HB2 : Hid (Below w.heap.size w w2) := below_then HB1.out hb2
      obtain ⟨hc2, hf2, hz2⟩ := bcell3 hb2
      have hz1' : w.heap.size < w1.heap.size := by have := hb1.size; simp only [World.size_alloc] at this; omega
      have q0 : w2.cell? ⟨w.heap.size, 0, none⟩ = some (.int .i64 m.size) := by rw [hb2.cell (p := ⟨w.heap.size, 0, none⟩) (by omega), hb1.cell (p := ⟨w.heap.size, 0, none⟩) (by simp)]; simp [go_sem]
      have q1 : w2.cell? ⟨w.heap.size, 1, none⟩ = some (.slice ad m.gates.length cd) := by rw [hb2.cell (p := ⟨w.heap.size, 1, none⟩) (by omega), hb1.cell (p := ⟨w.heap.size, 1, none⟩) (by simp)]; simp [go_sem]
      have q2 : w2.cell? ⟨w.heap.size, 2, none⟩ = some (.slice ak m.pulls.length ck) := by rw [hb2.cell (p := ⟨w.heap.size, 2, none⟩) (by omega), hb1.cell (p := ⟨w.heap.size, 2, none⟩) (by simp)]; simp [go_sem]
      clear hc1 hf1 hc2 hf2 hb1 hb2
      go_wp2_with fail
      refine (l8Do_c _ m xn ln a _ (hm.later HB2.out) OK.out hx hl).mono ?_
      rintro e w4 ⟨rfl, hb4⟩
      go_wp2_with fail
      go_ret3
      exact ⟨ret_tup2 (by rw [HD.out] <;> rfl), below_then HB2.out hb4⟩

set_option maxHeartbeats 1000000 in
theorem implDoAct_c (v : Value) (m : Wk) (x l a : Int) (w : World) (hm : WkAt w v m) (wx : wfI x) (wl : wfI l) (wa : wfI a) :
    Calls Try.prog 45 #[v, .int .i64 x, .int .i64 l, .int .i64 a] w fun e w' => e = .returned (.tuple #[.int .i64 (pDoAct m x l a).1, .int .i64 (pDoAct m x l a).2.1, .bool (pDoAct m x l a).2.2]) ∧ Below w.heap.size w w' := by
  have hM := hm
  obtain ⟨⟨ad, cd, ak, ck, rfl, hd, hk'⟩, nd, nk⟩ := hM
  cases g : visitB m x l
  case false =>
    have HD : Hid (pDoAct m x l a = (0, 0, false)) := by show _ = _; simp [pDoAct, g]
    go_enter Try.func45, Try.ntmps45
    go_wp2_with fail
    refine (isVisitOf_c _ m _ _ _ (hm.later (by (repeat (first | exact Below.refl _ _ | apply Below.drew | apply below_drewN | (refine Below.setCell ?_ (by first | omega | (simp; done) | (simp; omega) | (dsimp only; omega)) _) | (refine Below.alloc ?_ (by first | omega | (simp; done) | (simp; omega) | (dsimp only; omega)) _)))))).mono ?_
    rintro e w1 ⟨rfl, hb1⟩
    have HB1 : Hid (Below w.heap.size w w1) := below_then (by (repeat (first | exact Below.refl _ _ | apply Below.drew | apply below_drewN | (refine Below.setCell ?_ (by first | omega | (simp; done) | (simp; omega) | (dsimp only; omega)) _) | (refine Below.alloc ?_ (by first | omega | (simp; done) | (simp; omega) | (dsimp only; omega)) _)))) hb1
    obtain ⟨hc1, hf1, hz1⟩ := bcell3 hb1
    rw [g]
    go_wp2_with fail
    go_ret3
    exact ⟨ret_tup2 (by rw [HD.out] <;> rfl), HB1.out⟩
  case true =>
    obtain ⟨ok, xn, ln, rfl, rfl, hx, hl⟩ := visit_parts g
    have OK := Lib.hid ok; clear ok
    have h41 := actsL_len m xn ln
    cases p1 : hasI (actsL m xn ln) a
    case false =>
      have HD : Hid (pDoAct m xn ln a = (0, 0, false)) := by show _ = _; simp [pDoAct, g, p1]
      go_enter Try.func45, Try.ntmps45
      go_wp2_with fail
      refine (isVisitOf_c _ m _ _ _ (hm.later (by (repeat (first | exact Below.refl _ _ | apply Below.drew | apply below_drewN | (refine Below.setCell ?_ (by first | omega | (simp; done) | (simp; omega) | (dsimp only; omega)) _) | (refine Below.alloc ?_ (by first | omega | (simp; done) | (simp; omega) | (dsimp only; omega)) _)))))).mono ?_
      rintro e w1 ⟨rfl, hb1⟩
      have HB1 : Hid (Below w.heap.size w w1) := below_then (by (repeat (first | exact Below.refl _ _ | apply Below.drew | apply below_drewN | (refine Below.setCell ?_ (by first | omega | (simp; done) | (simp; omega) | (dsimp only; omega)) _) | (refine Below.alloc ?_ (by first | omega | (simp; done) | (simp; omega) | (dsimp only; omega)) _)))) hb1
      obtain ⟨hc1, hf1, hz1⟩ := bcell3 hb1
      rw [g]
      go_wp2_with fail
      refine (acts_c _ m xn ln _ (hm.later HB1.out) OK.out hx hl).mono ?_
      rintro e w2 ⟨u, rfl, ho, hb2⟩
      obtain ⟨au, cu, rfl, -, hi⟩ := (Own.of ho).ic
      have HI := Lib.hid hi; clear hi ho
      go_wp2_with fail
      refine (contains_c _ _ _ (actsL m xn ln) _ _ rfl HI.out (by omega)).mono ?_
      rintro e w3 ⟨rfl, rfl⟩
      rw [p1]
      go_wp2_with fail
      go_ret3
      exact ⟨ret_tup2 (by rw [HD.out] <;> rfl), below_then HB1.out hb2⟩

    case true =>
      have HD : Hid (pDoAct m xn ln a = ((doP m xn ln a).1, (doP m xn ln a).2, true)) := by show _ = _; simp [pDoAct, g, p1]
      go_enter Try.func45, Try.ntmps45
      go_wp2_with fail
      refine (isVisitOf_c _ m _ _ _ (hm.later (by (repeat (first | exact Below.refl _ _ | apply Below.drew | apply below_drewN | (refine Below.setCell ?_ (by first | omega | (simp; done) | (simp; omega) | (dsimp only; omega)) _) | (refine Below.alloc ?_ (by first | omega | (simp; done) | (simp; omega) | (dsimp only; omega)) _)))))).mono ?_
      rintro e w1 ⟨rfl, hb1⟩
      have HB1 : Hid (Below w.heap.size w w1) := below_then (by (repeat (first | exact Below.refl _ _ | apply Below.drew | apply below_drewN | (refine Below.setCell ?_ (by first | omega | (simp; done) | (simp; omega) | (dsimp only; omega)) _) | (refine Below.alloc ?_ (by first | omega | (simp; done) | (simp; omega) | (dsimp only; omega)) _)))) hb1
      obtain ⟨hc1, hf1, hz1⟩ := bcell3 hb1
      rw [g]
      go_wp2_with fail
      refine (acts_c _ m xn ln _ (hm.later HB1.out) OK.out hx hl).mono ?_
      rintro e w2 ⟨u, rfl, ho, hb2⟩
      obtain ⟨au, cu, rfl, -, hi⟩ := (Own.of ho).ic
      have HI := Lib.hid hi; clear hi ho
      go_wp2_with fail
      refine (contains_c _ _ _ (actsL m xn ln) _ _ rfl HI.out (by omega)).mono ?_
      rintro e w3 ⟨rfl, rfl⟩
      rw [p1]
      have HB2 : Hid (Below w.heap.size w w2) := below_then HB1.out hb2
      obtain ⟨hc2, hf2, hz2⟩ := bcell3 hb2
      have hz1' : w.heap.size < w1.heap.size := by have := hb1.size; simp only [World.size_alloc] at this; omega
      have q0 : w2.cell? ⟨w.heap.size, 0, none⟩ = some (.int .i64 m.size) := by rw [hb2.cell (p := ⟨w.heap.size, 0, none⟩) (by omega), hb1.cell (p := ⟨w.heap.size, 0, none⟩) (by simp)]; simp [go_sem]
      have q1 : w2.cell? ⟨w.heap.size, 1, none⟩ = some (.slice ad m.gates.length cd) := by rw [hb2.cell (p := ⟨w.heap.size, 1, none⟩) (by omega), hb1.cell (p := ⟨w.heap.size, 1, none⟩) (by simp)]; simp [go_sem]
      have q2 : w2.cell? ⟨w.heap.size, 2, none⟩ = some (.slice ak m.pulls.length ck) := by rw [hb2.cell (p := ⟨w.heap.size, 2, none⟩) (by omega), hb1.cell (p := ⟨w.heap.size, 2, none⟩) (by simp)]; simp [go_sem]
      clear hc1 hf1 hc2 hf2 hb1 hb2
      go_wp2_with fail
      refine (behind_c _ m xn ln a _ (hm.later HB2.out) OK.out hx hl).mono ?_
      rintro e w4 ⟨rfl, hb4⟩
      go_wp2_with fail
      go_ret3
      exact ⟨ret_tup2 (by rw [HD.out] <;> rfl), below_then HB2.out hb4⟩

end Go.Proofs.Ytkhackdbnmcffaa
