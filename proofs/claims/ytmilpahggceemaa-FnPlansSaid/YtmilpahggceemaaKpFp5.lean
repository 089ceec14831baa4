/- DoAct. Plans: impl.runPlan. Breadth first search over numbers below 768: plain words, no program. The visits of works as a graph over numbers; its steps lead back. Plain words. Contract of spec.l8Spread: the least numbers of acts, a search over numbers. -/
import Derived.Test.YtmilpahggceemaaKpFp4
import Derived.Deep.QuietTactic
import Derived.BigQuiet
import Derived.OwnWalk
import Derived.Test.YtmilpahggceemaaKpFp1
import Derived.Test.YtmilpahggceemaaKpFp0
import Derived.Deep.DeepCutAuto
import Derived.Deep.RegionHeld3
import Derived.Deep.AppendLies
import Derived.Deep.OwnRows
import Derived.Deep.WholeRow
set_option linter.unusedVariables false
set_option linter.unusedSimpArgs false
namespace Go.KD
def doP (m : Wk) (x l a : Int) : Int × Int := if a < 0 then (x, xorV l m.pulls[x.toNat]!) else (a, l)
noncomputable def pDoAct (m : Wk) (x l a : Int) : Int × Int × Bool := if visitB m x l && hasI (actsL m x l) a then ((doP m x l a).1, (doP m x l a).2, true) else (0, 0, false)
end Go.KD
namespace Go.Proofs.Ytmilpahggceemaa
open Go.RowKit Go.KD
attribute [local go_sem] later_cell later_frozen
set_option maxHeartbeats 1000000 in
theorem behind_c (v : Value) (m : Wk) (x l : Nat) (a : Int) (w : World) (hm : WkAt w v m) (ok : WkOk m) (hx : (x : Int) < m.size) (hl : l < 64) :
    Calls Try.prog 170 #[v, .int .i64 x, .int .i64 l, .int .i64 a] w fun e w' => e = .returned (.tuple #[.int .i64 (doP m x l a).1, .int .i64 (doP m x l a).2]) ∧ Below w.heap.size w w' := by
  have hM := hm
  obtain ⟨⟨ad, cd, ak, ck, rfl, hd, hk'⟩, nd, nk⟩ := hM
  have hnp : x < m.pulls.length := by have := ok.np; omega
  have hpl := ok.pl x hnp
  obtain ⟨s, gs, ps⟩ := m
  dsimp only at *
  have OK := Lib.hid ok; clear ok
  have hs2 : s ≤ 12 := OK.out.s2
  have hx12 : x < 12 := by omega
  obtain ⟨bp, offp, pv, rfl, HX, hbs, ep⟩ := hk'.at x hnp
  rw [HX.out] at hpl
  obtain ⟨hp0, hp1⟩ := setB_true.1 hpl
  clear hpl
  have ex : bits .xor .i64 (l : Int) pv = xorV l pv := xorV_bits (by omega) (by omega)
  have hxn : (x : Int) < (ps.length : Int) := by omega
  have hbs1 : bp < w.heap.size + 1 := by omega
  cases p0 : decide (a < 0)
  · have HD : Hid (doP ⟨s, gs, ps⟩ x l a = (a, (l : Int))) := by show _ = _; simp only [decide_eq_false_iff_not] at p0; simp [doP, p0]
    go_enter Try.func170, Try.ntmps170
    go_wp2
    go_ret2
    exact ⟨ret_tup2 (by rw [HD.out] <;> rfl), by (repeat (first | exact Below.refl _ _ | apply Below.drew | apply below_drewN | (refine Below.setCell ?_ (by first | omega | (simp; done) | (simp; omega) | (dsimp only; omega)) _) | (refine Below.alloc ?_ (by first | omega | (simp; done) | (simp; omega) | (dsimp only; omega)) _)))⟩
  · have HD : Hid (doP ⟨s, gs, ps⟩ x l a = ((x : Int), xorV l pv)) := by show _ = _; simp only [decide_eq_true_eq] at p0; simp [doP, p0, HX.out]
    go_enter Try.func170, Try.ntmps170
    go_wp2
    go_quiet (fail)
    go_wp2
    go_ret2
    exact ⟨ret_tup2 (by rw [HD.out] <;> rfl), by (repeat (first | exact Below.refl _ _ | apply Below.drew | apply below_drewN | (refine Below.setCell ?_ (by first | omega | (simp; done) | (simp; omega) | (dsimp only; omega)) _) | (refine Below.alloc ?_ (by first | omega | (simp; done) | (simp; omega) | (dsimp only; omega)) _)))⟩
set_option maxHeartbeats 1000000 in
theorem l8Do_c (v : Value) (m : Wk) (x l : Nat) (a : Int) (w : World) (hm : WkAt w v m) (ok : WkOk m) (hx : (x : Int) < m.size) (hl : l < 64) :
    Calls Try.prog 178 #[v, .int .i64 x, .int .i64 l, .int .i64 a] w fun e w' => e = .returned (.tuple #[.int .i64 (doP m x l a).1, .int .i64 (doP m x l a).2]) ∧ Below w.heap.size w w' := by
  have hM := hm
  obtain ⟨⟨ad, cd, ak, ck, rfl, hd, hk'⟩, nd, nk⟩ := hM
  have hnp : x < m.pulls.length := by have := ok.np; omega
  have hpl := ok.pl x hnp
  obtain ⟨s, gs, ps⟩ := m
  dsimp only at *
  have OK := Lib.hid ok; clear ok
  have hs2 : s ≤ 12 := OK.out.s2
  have hx12 : x < 12 := by omega
  obtain ⟨bp, offp, pv, rfl, HX, hbs, ep⟩ := hk'.at x hnp
  rw [HX.out] at hpl
  obtain ⟨hp0, hp1⟩ := setB_true.1 hpl
  clear hpl
  have ex : bits .xor .i64 (l : Int) pv = xorV l pv := xorV_bits (by omega) (by omega)
  have hxn : (x : Int) < (ps.length : Int) := by omega
  have hbs1 : bp < w.heap.size + 1 := by omega
  cases p0 : decide (a < 0)
  · have HD : Hid (doP ⟨s, gs, ps⟩ x l a = (a, (l : Int))) := by show _ = _; simp only [decide_eq_false_iff_not] at p0; simp [doP, p0]
    go_enter Try.func178, Try.ntmps178
    go_wp2
    go_ret2
    exact ⟨ret_tup2 (by rw [HD.out] <;> rfl), by (repeat (first | exact Below.refl _ _ | apply Below.drew | apply below_drewN | (refine Below.setCell ?_ (by first | omega | (simp; done) | (simp; omega) | (dsimp only; omega)) _) | (refine Below.alloc ?_ (by first | omega | (simp; done) | (simp; omega) | (dsimp only; omega)) _)))⟩
  · have HD : Hid (doP ⟨s, gs, ps⟩ x l a = ((x : Int), xorV l pv)) := by show _ = _; simp only [decide_eq_true_eq] at p0; simp [doP, p0, HX.out]
    go_enter Try.func178, Try.ntmps178
    go_wp2
    go_quiet (fail)
    go_wp2
    go_ret2
    exact ⟨ret_tup2 (by rw [HD.out] <;> rfl), by (repeat (first | exact Below.refl _ _ | apply Below.drew | apply below_drewN | (refine Below.setCell ?_ (by first | omega | (simp; done) | (simp; omega) | (dsimp only; omega)) _) | (refine Below.alloc ?_ (by first | omega | (simp; done) | (simp; omega) | (dsimp only; omega)) _)))⟩
set_option maxHeartbeats 1000000 in
theorem specDoAct_c (v : Value) (m : Wk) (x l a : Int) (w : World) (hm : WkAt w v m) (wx : wfI x) (wl : wfI l) (wa : wfI a) :
    Calls Try.prog 60 #[v, .int .i64 x, .int .i64 l, .int .i64 a] w fun e w' => e = .returned (.tuple #[.int .i64 (pDoAct m x l a).1, .int .i64 (pDoAct m x l a).2.1, .bool (pDoAct m x l a).2.2]) ∧ Below w.heap.size w w' := by
  have hM := hm
  obtain ⟨⟨ad, cd, ak, ck, rfl, hd, hk'⟩, nd, nk⟩ := hM
  cases g : visitB m x l
  case false =>
    have HD : Hid (pDoAct m x l a = (0, 0, false)) := by show _ = _; simp [pDoAct, g]
    go_enter Try.func60, Try.ntmps60
    go_wp2_with fail
    refine (l8Visit_c _ m _ _ _ (hm.later (by (repeat (first | exact Below.refl _ _ | apply Below.drew | apply below_drewN | (refine Below.setCell ?_ (by first | omega | (simp; done) | (simp; omega) | (dsimp only; omega)) _) | (refine Below.alloc ?_ (by first | omega | (simp; done) | (simp; omega) | (dsimp only; omega)) _)))))).mono ?_
    rintro e w1 ⟨rfl, hb1⟩
    have HB1 : Hid (Below w.heap.size w w1) := below_then (by (repeat (first | exact Below.refl _ _ | apply Below.drew | apply below_drewN | (refine Below.setCell ?_ (by first | omega | (simp; done) | (simp; omega) | (dsimp only; omega)) _) | (refine Below.alloc ?_ (by first | omega | (simp; done) | (simp; omega) | (dsimp only; omega)) _)))) hb1
    obtain ⟨hc1, hf1, hz1⟩ := bcell3 hb1
    rw [g]
    go_wp2_with fail
    go_ret3
    exact ⟨ret_tup2 (by rw [HD.out] <;> rfl), HB1.out⟩
  case true =>
    obtain ⟨ok, xn, ln, rfl, rfl, hx, hl⟩ := visit_parts g
    have OK := Lib.hid ok; clear ok
    have h41 := actsL_len m xn ln
    cases p1 : hasI (actsL m xn ln) a
    case false =>
      have HD : Hid (pDoAct m xn ln a = (0, 0, false)) := by show _ = _; simp [pDoAct, g, p1]
      go_enter Try.func60, Try.ntmps60
      go_wp2_with fail
      refine (l8Visit_c _ m _ _ _ (hm.later (by (repeat (first | exact Below.refl _ _ | apply Below.drew | apply below_drewN | (refine Below.setCell ?_ (by first | omega | (simp; done) | (simp; omega) | (dsimp only; omega)) _) | (refine Below.alloc ?_ (by first | omega | (simp; done) | (simp; omega) | (dsimp only; omega)) _)))))).mono ?_
      rintro e w1 ⟨rfl, hb1⟩
      have HB1 : Hid (Below w.heap.size w w1) := below_then (by (repeat (first | exact Below.refl _ _ | apply Below.drew | apply below_drewN | (refine Below.setCell ?_ (by first | omega | (simp; done) | (simp; omega) | (dsimp only; omega)) _) | (refine Below.alloc ?_ (by first | omega | (simp; done) | (simp; omega) | (dsimp only; omega)) _)))) hb1
      obtain ⟨hc1, hf1, hz1⟩ := bcell3 hb1
      rw [g]
      go_wp2_with fail
      refine (l8Acts_c _ m xn ln _ (hm.later HB1.out) OK.out hx hl).mono ?_
      rintro e w2 ⟨u, rfl, ⟨bu, ou, cu, rfl, hi, -, -⟩, hb2⟩
      have HI := Lib.hid hi; clear hi
      go_wp2_with fail
      refine (l1Has_c _ _ _ (actsL m xn ln) _ _ rfl HI.out (by omega)).mono ?_
      rintro e w3 ⟨rfl, rfl⟩
      rw [p1]
      go_wp2_with fail
      go_ret3
      exact ⟨ret_tup2 (by rw [HD.out] <;> rfl), below_then HB1.out hb2⟩

    case true =>
      have HD : Hid (pDoAct m xn ln a = ((doP m xn ln a).1, (doP m xn ln a).2, true)) := by show _ = _; simp [pDoAct, g, p1]
      go_enter Try.func60, Try.ntmps60
      go_wp2_with fail
      refine (l8Visit_c _ m _ _ _ (hm.later (by (repeat (first | exact Below.refl _ _ | apply Below.drew | apply below_drewN | (refine Below.setCell ?_ (by first | omega | (simp; done) | (simp; omega) | (dsimp only; omega)) _) | (refine Below.alloc ?_ (by first | omega | (simp; done) | (simp; omega) | (dsimp only; omega)) _)))))).mono ?_
      rintro e w1 ⟨rfl, hb1⟩
      have HB1 : Hid (Below w.heap.size w w1) := below_then (by (repeat (first | exact Below.refl _ _ | apply Below.drew | apply below_drewN | (refine Below.setCell ?_ (by first | omega | (simp; done) | (simp; omega) | (dsimp only; omega)) _) | (refine Below.alloc ?_ (by first | omega | (simp; done) | (simp; omega) | (dsimp only; omega)) _)))) hb1
      obtain ⟨hc1, hf1, hz1⟩ := bcell3 hb1
      rw [g]
      go_wp2_with fail
      refine (l8Acts_c _ m xn ln _ (hm.later HB1.out) OK.out hx hl).mono ?_
      rintro e w2 ⟨u, rfl, ⟨bu, ou, cu, rfl, hi, -, -⟩, hb2⟩
      have HI := Lib.hid hi; clear hi
      go_wp2_with fail
      refine (l1Has_c _ _ _ (actsL m xn ln) _ _ rfl HI.out (by omega)).mono ?_
      rintro e w3 ⟨rfl, rfl⟩
      rw [p1]
      have HB2 : Hid (Below w.heap.size w w2) := below_then HB1.out hb2
      obtain ⟨hc2, hf2, hz2⟩ := bcell3 hb2
      have hz1' : w.heap.size < w1.heap.size := by have := hb1.size; simp only [World.size_alloc] at this; omega
      have q0 : w2.cell? ⟨w.heap.size, 0, none⟩ = some (.int .i64 m.size) := by rw [hb2.cell (p := ⟨w.heap.size, 0, none⟩) (by omega), hb1.cell (p := ⟨w.heap.size, 0, none⟩) (by simp)]; simp [go_sem]
      have q1 : w2.cell? ⟨w.heap.size, 1, none⟩ = some (.slice ad m.gates.length cd) := by rw [hb2.cell (p := ⟨w.heap.size, 1, none⟩) (by omega), hb1.cell (p := ⟨w.heap.size, 1, none⟩) (by simp)]; simp [go_sem]
      have q2 : w2.cell? ⟨w.heap.size, 2, none⟩ = some (.slice ak m.pulls.length ck) := by rw [hb2.cell (p := ⟨w.heap.size, 2, none⟩) (by omega), hb1.cell (p := ⟨w.heap.size, 2, none⟩) (by simp)]; simp [go_sem]
      clear hc1 hf1 hc2 hf2 hb1 hb2
      go_wp2_with fail
      refine (l8Do_c _ m xn ln a _ (hm.later HB2.out) OK.out hx hl).mono ?_
      rintro e w4 ⟨rfl, hb4⟩
      go_wp2_with fail
      go_ret3
      exact ⟨ret_tup2 (by rw [HD.out] <;> rfl), below_then HB2.out hb4⟩

set_option maxHeartbeats 1000000 in
theorem implDoAct_c (v : Value) (m : Wk) (x l a : Int) (w : World) (hm : WkAt w v m) (wx : wfI x) (wl : wfI l) (wa : wfI a) :
    Calls Try.prog 59 #[v, .int .i64 x, .int .i64 l, .int .i64 a] w fun e w' => e = .returned (.tuple #[.int .i64 (pDoAct m x l a).1, .int .i64 (pDoAct m x l a).2.1, .bool (pDoAct m x l a).2.2]) ∧ Below w.heap.size w w' := by
  have hM := hm
  obtain ⟨⟨ad, cd, ak, ck, rfl, hd, hk'⟩, nd, nk⟩ := hM
  cases g : visitB m x l
  case false =>
    have HD : Hid (pDoAct m x l a = (0, 0, false)) := by show _ = _; simp [pDoAct, g]
    go_enter Try.func59, Try.ntmps59
    go_wp2_with fail
    refine (isVisitOf_c _ m _ _ _ (hm.later (by (repeat (first | exact Below.refl _ _ | apply Below.drew | apply below_drewN | (refine Below.setCell ?_ (by first | omega | (simp; done) | (simp; omega) | (dsimp only; omega)) _) | (refine Below.alloc ?_ (by first | omega | (simp; done) | (simp; omega) | (dsimp only; omega)) _)))))).mono ?_
    rintro e w1 ⟨rfl, hb1⟩
    have HB1 : Hid (Below w.heap.size w w1) := below_then (by (repeat (first | exact Below.refl _ _ | apply Below.drew | apply below_drewN | (refine Below.setCell ?_ (by first | omega | (simp; done) | (simp; omega) | (dsimp only; omega)) _) | (refine Below.alloc ?_ (by first | omega | (simp; done) | (simp; omega) | (dsimp only; omega)) _)))) hb1
    obtain ⟨hc1, hf1, hz1⟩ := bcell3 hb1
    rw [g]
    go_wp2_with fail
    go_ret3
    exact ⟨ret_tup2 (by rw [HD.out] <;> rfl), HB1.out⟩
  case true =>
    obtain ⟨ok, xn, ln, rfl, rfl, hx, hl⟩ := visit_parts g
    have OK := Lib.hid ok; clear ok
    have h41 := actsL_len m xn ln
    cases p1 : hasI (actsL m xn ln) a
    case false =>
      have HD : Hid (pDoAct m xn ln a = (0, 0, false)) := by show _ = _; simp [pDoAct, g, p1]
      go_enter Try.func59, Try.ntmps59
      go_wp2_with fail
      refine (isVisitOf_c _ m _ _ _ (hm.later (by (repeat (first | exact Below.refl _ _ | apply Below.drew | apply below_drewN | (refine Below.setCell ?_ (by first | omega | (simp; done) | (simp; omega) | (dsimp only; omega)) _) | (refine Below.alloc ?_ (by first | omega | (simp; done) | (simp; omega) | (dsimp only; omega)) _)))))).mono ?_
      rintro e w1 ⟨rfl, hb1⟩
      have HB1 : Hid (Below w.heap.size w w1) := below_then (by (repeat (first | exact Below.refl _ _ | apply Below.drew | apply below_drewN | (refine Below.setCell ?_ (by first | omega | (simp; done) | (simp; omega) | (dsimp only; omega)) _) | (refine Below.alloc ?_ (by first | omega | (simp; done) | (simp; omega) | (dsimp only; omega)) _)))) hb1
      obtain ⟨hc1, hf1, hz1⟩ := bcell3 hb1
      rw [g]
      go_wp2_with fail
      refine (acts_c _ m xn ln _ (hm.later HB1.out) OK.out hx hl).mono ?_
      rintro e w2 ⟨u, rfl, ho, hb2⟩
      obtain ⟨au, cu, rfl, -, hi⟩ := (Own.of ho).ic
      have HI := Lib.hid hi; clear hi ho
      go_wp2_with fail
      refine (contains_c _ _ _ (actsL m xn ln) _ _ rfl HI.out (by omega)).mono ?_
      rintro e w3 ⟨rfl, rfl⟩
      rw [p1]
      go_wp2_with fail
      go_ret3
      exact ⟨ret_tup2 (by rw [HD.out] <;> rfl), below_then HB1.out hb2⟩

    case true =>
      have HD : Hid (pDoAct m xn ln a = ((doP m xn ln a).1, (doP m xn ln a).2, true)) := by show _ = _; simp [pDoAct, g, p1]
      go_enter Try.func59, Try.ntmps59
      go_wp2_with fail
      refine (isVisitOf_c _ m _ _ _ (hm.later (by (repeat (first | exact Below.refl _ _ | apply Below.drew | apply below_drewN | (refine Below.setCell ?_ (by first | omega | (simp; done) | (simp; omega) | (dsimp only; omega)) _) | (refine Below.alloc ?_ (by first | omega | (simp; done) | (simp; omega) | (dsimp only; omega)) _)))))).mono ?_
      rintro e w1 ⟨rfl, hb1⟩
      have HB1 : Hid (Below w.heap.size w w1) := below_then (by (repeat (first | exact Below.refl _ _ | apply Below.drew | apply below_drewN | (refine Below.setCell ?_ (by first | omega | (simp; done) | (simp; omega) | (dsimp only; omega)) _) | (refine Below.alloc ?_ (by first | omega | (simp; done) | (simp; omega) | (dsimp only; omega)) _)))) hb1
      obtain ⟨hc1, hf1, hz1⟩ := bcell3 hb1
      rw [g]
      go_wp2_with fail
      refine (acts_c _ m xn ln _ (hm.later HB1.out) OK.out hx hl).mono ?_
      rintro e w2 ⟨u, rfl, ho, hb2⟩
      obtain ⟨au, cu, rfl, -, hi⟩ := (Own.of ho).ic
      have HI := Lib.hid hi; clear hi ho
      go_wp2_with fail
      refine (contains_c _ _ _ (actsL m xn ln) _ _ rfl HI.out (by omega)).mono ?_
      rintro e w3 ⟨rfl, rfl⟩
      rw [p1]
      have HB2 : Hid (Below w.heap.size w w2) := below_then HB1.out hb2
      obtain ⟨hc2, hf2, hz2⟩ := bcell3 hb2
      have hz1' : w.heap.size < w1.heap.size := by have := hb1.size; simp only [World.size_alloc] at this; omega
      have q0 : w2.cell? ⟨w.heap.size, 0, none⟩ = some (.int .i64 m.size) := by rw [hb2.cell (p := ⟨w.heap.size, 0, none⟩) (by omega), hb1.cell (p := ⟨w.heap.size, 0, none⟩) (by simp)]; simp [go_sem]
      have q1 : w2.cell? ⟨w.heap.size, 1, none⟩ = some (.slice ad m.gates.length cd) := by rw [hb2.cell (p := ⟨w.heap.size, 1, none⟩) (by omega), hb1.cell (p := ⟨w.heap.size, 1, none⟩) (by simp)]; simp [go_sem]
      have q2 : w2.cell? ⟨w.heap.size, 2, none⟩ = some (.slice ak m.pulls.length ck) := by rw [hb2.cell (p := ⟨w.heap.size, 2, none⟩) (by omega), hb1.cell (p := ⟨w.heap.size, 2, none⟩) (by simp)]; simp [go_sem]
      clear hc1 hf1 hc2 hf2 hb1 hb2
      go_wp2_with fail
      refine (behind_c _ m xn ln a _ (hm.later HB2.out) OK.out hx hl).mono ?_
      rintro e w4 ⟨rfl, hb4⟩
      go_wp2_with fail
      go_ret3
      exact ⟨ret_tup2 (by rw [HD.out] <;> rfl), below_then HB2.out hb4⟩

end Go.Proofs.Ytmilpahggceemaa

namespace Go.KD
/-- The visit behind the first k acts of a plan; none if it is none. -/
def runK (m : Wk) (p : List Int) : Nat → Option (Int × Int)
  | 0 => some (0, 0)
  | k + 1 => match runK m p k with
    | none => none
    | some (x, l) => if hasI (actsL m x l) p[k]! then some (doP m x l p[k]!) else none
def runP (m : Wk) (p : List Int) : Int × Int × Bool :=
  if p.length ≤ 60 then (match runK m p p.length with | some (x, l) => (x, l, true) | none => (0, 0, false)) else (0, 0, false)
theorem act_range {m : Wk} (ok : WkOk m) {x l : Nat} {a : Int} (hx : (x : Int) < m.size) (h : hasI (actsL m x l) a = true) : a = -1 ∨ (0 ≤ a ∧ a < m.size) := by
  rw [hasI_iff] at h
  unfold actsL at h
  rw [List.mem_append] at h
  rcases h with h | h
  · split at h
    · cases h
    · left; simpa using h
  · right
    have : ∀ k, k ≤ m.gates.length → ∀ i : Nat, (nbK m.gates x l k).testBit i = true → (i : Int) < m.size := by
      intro k
      induction k with
      | zero => intro _ i hi; simp [nbK] at hi
      | succ k ih =>
        intro hk i hi
        rw [nb_step (by omega)] at hi
        obtain ⟨a, b, c, d, hg⟩ : ∃ a b c d, m.gates[k]! = (a, b, c, d) := ⟨_, _, _, _, rfl⟩
        have f := gate_facts ok (by omega) hg
        have ih := ih (by omega) i
        rw [hg] at hi
        have hs : ∀ (s : Nat) (z : Int), 0 ≤ z → z < m.size → (setN s z).testBit i = true → s.testBit i = true ∨ (i : Int) < m.size := by
          intro s z z0 z1 h
          unfold setN at h
          rw [Nat.testBit_or, Bool.or_eq_true, Nat.testBit_two_pow] at h
          rcases h with h | h
          · exact .inl h
          · right; have : z.toNat = i := by simpa using h
            omega
        unfold adjG at hi
        dsimp only at hi
        split at hi
        · split at hi <;> split at hi
          · rcases hs _ _ (by omega) (by omega) hi with h | h
            · rcases hs _ _ (by omega) (by omega) h with h | h
              · exact ih h
              · exact h
            · exact h
          · rcases hs _ _ (by omega) (by omega) hi with h | h
            · exact ih h
            · exact h
          · rcases hs _ _ (by omega) (by omega) hi with h | h
            · exact ih h
            · exact h
          · exact ih hi
        · exact ih hi
    rw [in_mem] at h
    obtain ⟨i, _, h2, rfl⟩ := h
    exact ⟨by omega, this _ (Nat.le_refl _) i h2⟩
theorem xorV_small {a b : Int} (ha : 0 ≤ a ∧ a < 64) (hb : 0 ≤ b ∧ b < 64) : 0 ≤ xorV a b ∧ xorV a b < 64 := by
  have : a.toNat ^^^ b.toNat < 2 ^ 6 := Nat.xor_lt_two_pow (by omega) (by omega)
  unfold xorV
  omega
/-- A plan leads to visits. -/
theorem runK_ok {m : Wk} (ok : WkOk m) (p : List Int) : ∀ k x l, runK m p k = some (x, l) → ∃ xn ln : Nat, x = xn ∧ l = ln ∧ (xn : Int) < m.size ∧ ln < 64
  | 0, x, l, h => by
    simp only [runK, Option.some.injEq, Prod.mk.injEq] at h
    obtain ⟨rfl, rfl⟩ := h
    have := ok.s1
    exact ⟨0, 0, rfl, rfl, by simp; omega, by omega⟩
  | k + 1, x, l, h => by
    unfold runK at h
    split at h
    · cases h
    · rename_i x0 l0 h0
      obtain ⟨xn, ln, rfl, rfl, hx, hl⟩ := runK_ok ok p k _ _ h0
      split at h
      · rename_i ha
        have hp := ok.pl xn (by have := ok.np; omega)
        obtain ⟨p0, p1⟩ := setB_true.1 hp
        have hr := act_range ok hx ha
        simp only [Option.some.injEq] at h
        unfold doP at h
        split at h
        · cases h
          obtain ⟨g0, g1⟩ := xorV_small (a := (ln : Int)) (b := m.pulls[xn]!) (by omega) (by omega)
          refine ⟨xn, (xorV ln m.pulls[xn]!).toNat, rfl, ?_, hx, by omega⟩
          simp only [Int.toNat_natCast]
          omega
        · cases h
          exact ⟨p[k]!.toNat, ln, by omega, rfl, by omega, hl⟩
      · cases h
theorem runK_none {m : Wk} {p : List Int} {k : Nat} (h : runK m p k = none) : ∀ j, runK m p (k + j) = none
  | 0 => h
  | j + 1 => by show runK m p ((k + j) + 1) = none; unfold runK; rw [runK_none h j]
end Go.KD
namespace Go.Proofs.Ytmilpahggceemaa
open Go.RowKit Go.KD
attribute [local go_sem] later_cell later_frozen
set_option maxRecDepth 100000 in
set_option maxHeartbeats 4000000 in
theorem runPlan_c (v : Value) (m : Wk) (a : Option Addr) (cap : Nat) (p : List Int) (w : World) (hm : WkAt w v m) (ok : WkOk m) (hA : IC w a p) (hl : p.length ≤ 1048576) :
    Calls Try.prog 140 #[v, .slice a p.length cap] w fun e w' => e = .returned (.tuple #[.int .i64 (runP m p).1, .int .i64 (runP m p).2.1, .bool (runP m p).2.2]) ∧ Below w.heap.size w w' := by
  have hM := hm
  obtain ⟨⟨ad, cd, ak, ck, rfl, hd, hk'⟩, nd, nk⟩ := hM
  have OK := Lib.hid ok; clear ok
  by_cases h60 : p.length ≤ 60
  case neg =>
    have g : decide ((60 : Int) < (p.length : Int)) = true := by simp; omega
    have HD : Hid (runP m p = (0, 0, false)) := by show _ = _; simp [runP, h60]
    clear h60
    go_enter Try.func140, Try.ntmps140
    go_wp2
    go_ret3
    exact ⟨ret_tup2 (by rw [HD.out] <;> rfl), by (repeat (first | exact Below.refl _ _ | apply Below.drew | apply below_drewN | (refine Below.setCell ?_ (by first | omega | (simp; done) | (simp; omega) | (dsimp only; omega)) _) | (refine Below.alloc ?_ (by first | omega | (simp; done) | (simp; omega) | (dsimp only; omega)) _)))⟩
  case pos =>
    have g : decide ((60 : Int) < (p.length : Int)) = false := by simp; omega
    go_enter Try.func140, Try.ntmps140
    go_wp2
    go_loopw [7, 8, 16] (fun x l i wr => ∃ k xn ln : Nat, k ≤ p.length ∧ i = .int .i64 k ∧ x = .int .i64 xn ∧ l = .int .i64 ln ∧ Hid (runK m p k = some ((xn : Int), (ln : Int))) ∧ (xn : Int) < m.size ∧ ln < 64 ∧ Below (w.heap.size + 1) (w.alloc (.cells #[.int .i64 m.size, .slice ad m.gates.length cd, .slice ak m.pulls.length ck] 36)) wr) (fun _ _ i _ => p.length - (intOf i).toNat)
    case atStart => exact ⟨0, 0, 0, Nat.zero_le _, rfl, rfl, rfl, rfl, by have := OK.out.s1; simp; omega, by omega, Below.refl _ _⟩
    case round =>
      obtain ⟨wo, rfl⟩ : ∃ wo : World, wo = wr := ⟨_, rfl⟩
      obtain ⟨k, xn, ln, hkl, rfl, rfl, rfl, HR, hx, hln, hb⟩ := hrel
      obtain ⟨hc, hf, hz⟩ := bcell3 hb
      simp only [World.size_alloc] at hz
      have hz1 : w.heap.size < wo.heap.size := by omega
      have HB : Hid (Below w.heap.size w wo) := (by (repeat (first | exact Below.refl _ _ | apply Below.drew | apply below_drewN | (refine Below.setCell ?_ (by first | omega | (simp; done) | (simp; omega) | (dsimp only; omega)) _) | (refine Below.alloc ?_ (by first | omega | (simp; done) | (simp; omega) | (dsimp only; omega)) _))) : Below w.heap.size w (w.alloc _)).trans (hb.mono (by omega))
      have HBo := Lib.hid hb
      by_cases hlt : k < p.length
      · obtain ⟨b, off, y, rfl, HY, hbs, e0⟩ := (hA.later HB.out).at k hlt
        have h41 := actsL_len m xn ln
        cases p1 : hasI (actsL m xn ln) y
        · have HD : Hid (runP m p = (0, 0, false)) := by
            show _ = _
            have h1 : runK m p (k + 1) = none := by unfold runK; rw [HR.out]; simp [HY.out, p1]
            have h2 := runK_none h1 (p.length - (k + 1))
            rw [show k + 1 + (p.length - (k + 1)) = p.length from by omega] at h2
            simp [runP, h2]
          go_wp2_with fail
          refine (acts_c _ m xn ln _ (hm.later HB.out) OK.out hx hln).mono ?_
          rintro e w2 ⟨u, rfl, ho, hb2⟩
          obtain ⟨au, cu, rfl, -, hi⟩ := (Own.of ho).ic
          have HI := Lib.hid hi; clear hi ho
          go_wp2_with fail
          refine (contains_c _ _ _ (actsL m xn ln) _ _ rfl HI.out (by omega)).mono ?_
          rintro e w3 ⟨rfl, rfl⟩
          rw [p1]
          go_wp2_with fail
          go_ret3
          exact ⟨ret_tup2 (by rw [HD.out] <;> rfl), below_then HB.out hb2⟩
        · have h1 : runK m p (k + 1) = some (doP m xn ln y) := by unfold runK; rw [HR.out]; simp [HY.out, p1]
          obtain ⟨x2, l2, hx2, hl2, hx3, hl3⟩ := runK_ok OK.out p (k + 1) (doP m xn ln y).1 (doP m xn ln y).2 h1
          have HX2 := Lib.hid hx2; have HL2 := Lib.hid hl2; clear hx2 hl2
          have H1 := Lib.hid h1; clear h1
          go_wp2_with fail
          refine (acts_c _ m xn ln _ (hm.later HB.out) OK.out hx hln).mono ?_
          rintro e w2 ⟨u, rfl, ho, hb2⟩
          obtain ⟨au, cu, rfl, -, hi⟩ := (Own.of ho).ic
          have HI := Lib.hid hi; clear hi ho
          have HB2 : Hid (Below w.heap.size w w2) := below_then HB.out hb2
          have hz2 := hb2.size
          have q0 : w2.cell? ⟨w.heap.size, 0, none⟩ = some (.int .i64 m.size) := by rw [hb2.cell (p := ⟨w.heap.size, 0, none⟩) hz1, HBo.out.cell (p := ⟨w.heap.size, 0, none⟩) (by simp)]; simp [go_sem]
          have q1 : w2.cell? ⟨w.heap.size, 1, none⟩ = some (.slice ad m.gates.length cd) := by rw [hb2.cell (p := ⟨w.heap.size, 1, none⟩) hz1, HBo.out.cell (p := ⟨w.heap.size, 1, none⟩) (by simp)]; simp [go_sem]
          have q2 : w2.cell? ⟨w.heap.size, 2, none⟩ = some (.slice ak m.pulls.length ck) := by rw [hb2.cell (p := ⟨w.heap.size, 2, none⟩) hz1, HBo.out.cell (p := ⟨w.heap.size, 2, none⟩) (by simp)]; simp [go_sem]
          have HB2' : Hid (Below (w.heap.size + 1) (w.alloc (.cells #[.int .i64 m.size, .slice ad m.gates.length cd, .slice ak m.pulls.length ck] 36)) w2) := HBo.out.trans (hb2.mono (by omega))
          clear hb2 hc hf
          go_wp2_with fail
          refine (contains_c _ _ _ (actsL m xn ln) _ _ rfl HI.out (by omega)).mono ?_
          rintro e w3 ⟨rfl, rfl⟩
          rw [p1]
          go_wp2_with fail
          refine (behind_c _ m xn ln y _ (hm.later HB2.out) OK.out hx hln).mono ?_
          rintro e w4 ⟨rfl, hb4⟩
          rw [HX2.out, HL2.out]
          go_wp2
          go_roundw
          case rel => exact ⟨k + 1, x2, l2, by omega, by go_num, rfl, rfl, by show _ = _; rw [H1.out, ← HX2.out, ← HL2.out], hx3, hl3, HB2'.out.trans (hb4.mono (by omega))⟩
          case measure => simp [intOf]; omega
      · obtain rfl : k = p.length := by omega
        have HD : Hid (runP m p = ((xn : Int), (ln : Int), true)) := by show _ = _; simp [runP, h60, HR.out]
        go_wp2
        go_ret3
        exact ⟨ret_tup2 (by rw [HD.out] <;> rfl), HB.out⟩
end Go.Proofs.Ytmilpahggceemaa

namespace Go.KD
open Go.RowKit
abbrev Bn := Nat × Nat
def bAdd (c : Nat) (E : List Bn) (y : Nat) : List Bn := if E.any (fun e => e.1 == y) then E else E ++ [(y, c)]
def bExpJ (nx : Nat → List Nat) (E : List Bn) (i j : Nat) : List Bn := ((nx (E[i]!).1).take j).foldl (bAdd ((E[i]!).2 + 1)) E
def bExp (nx : Nat → List Nat) (E : List Bn) (i : Nat) : List Bn := bExpJ nx E i (nx (E[i]!).1).length
def bfE (nx : Nat → List Nat) (E0 : List Bn) : Nat → List Bn
  | 0 => E0
  | i + 1 => if i < (bfE nx E0 i).length then bExp nx (bfE nx E0 i) i else bfE nx E0 i
def bfF (nx : Nat → List Nat) (E0 : List Bn) : List Bn := bfE nx E0 768
def bD (E : List Bn) (y : Nat) : Int := match E.find? (fun e => e.1 == y) with | some e => (e.2 : Int) | none => -1
/-- There is a walk of k steps. -/
def bWalk (nx : Nat → List Nat) : Nat → Nat → Nat → Prop
  | 0, s, y => s = y
  | k + 1, s, y => ∃ z, bWalk nx k s z ∧ y ∈ nx z
def bNx (nx : Nat → List Nat) : Prop := ∀ x, x < 768 → ∀ y ∈ nx x, y < 768
/-- The search in round i, with j of the round's steps done. -/
structure BOk (nx : Nat → List Nat) (S : List Nat) (E : List Bn) (i j : Nat) : Prop where
  nd : (E.map (·.1)).Nodup
  lt : ∀ e ∈ E, e.1 < 768
  so : ∀ a b, a ≤ b → b < E.length → (E[a]!).2 ≤ (E[b]!).2
  hi : i < E.length → ∀ b, b < E.length → (E[b]!).2 ≤ (E[i]!).2 + 1
  cl : ∀ a, a < i → a < E.length → ∀ y ∈ nx (E[a]!).1, ∃ e ∈ E, e.1 = y ∧ e.2 ≤ (E[a]!).2 + 1
  pj : ∀ y ∈ (nx (E[i]!).1).take j, ∃ e ∈ E, e.1 = y ∧ e.2 ≤ (E[i]!).2 + 1
  sd : ∀ e ∈ E, ∃ s ∈ S, bWalk nx e.2 s e.1
  st : ∀ s ∈ S, ∃ e ∈ E, e.1 = s ∧ e.2 = 0
theorem bApp_l {E : List Bn} {z : Bn} {a : Nat} (h : a < E.length) : (E ++ [z])[a]! = E[a]! := by
  rw [getElem!_pos (E ++ [z]) a (by simp; omega), getElem!_pos E a h, List.getElem_append_left]
theorem bApp_r {E : List Bn} {z : Bn} : (E ++ [z])[E.length]! = z := by
  rw [getElem!_pos _ _ (by simp)]; simp
theorem bLt_of {l : List Nat} {n : Nat} (hn : l.Nodup) (h : ∀ x ∈ l, x < n) : l.length ≤ n := by
  have hp : l.Perm ((List.range n).filter fun x => l.contains x) := by
    refine (List.perm_ext_iff_of_nodup hn (List.Pairwise.filter _ List.nodup_range)).2 fun x => ?_
    simp only [List.mem_filter, List.mem_range, List.contains_iff_mem]
    exact ⟨fun hx => ⟨h x hx, hx⟩, fun hx => hx.2⟩
  rw [hp.length_eq]
  exact Nat.le_trans (List.length_filter_le _ _) (by simp)
theorem BOk.le {nx : Nat → List Nat} {S : List Nat} {E : List Bn} {i j : Nat} (h : BOk nx S E i j) : E.length ≤ 768 := by
  have := bLt_of h.nd (n := 768) (fun x hx => by obtain ⟨e, he, rfl⟩ := List.mem_map.1 hx; exact h.lt e he)
  simpa using this
theorem bAdd_yes {c : Nat} {E : List Bn} {y : Nat} (h : E.any (fun e => e.1 == y) = true) : bAdd c E y = E := by unfold bAdd; rw [if_pos h]
theorem bAdd_no {c : Nat} {E : List Bn} {y : Nat} (h : E.any (fun e => e.1 == y) = false) : bAdd c E y = E ++ [(y, c)] := by unfold bAdd; rw [if_neg (by rw [h]; simp)]
theorem bTake {l : List Nat} {j : Nat} (hj : j < l.length) : l.take (j + 1) = l.take j ++ [l[j]!] := by rw [List.take_add_one, List.getElem?_eq_getElem hj, getElem!_pos l j hj]; rfl
theorem bExpJ_step (nx : Nat → List Nat) (E : List Bn) (i : Nat) {j : Nat} (hj : j < (nx (E[i]!).1).length) : bExpJ nx E i (j + 1) = bAdd ((E[i]!).2 + 1) (bExpJ nx E i j) (nx (E[i]!).1)[j]! := by
  unfold bExpJ
  rw [bTake hj, List.foldl_append]
  rfl
theorem bAdd_pre (c : Nat) (E : List Bn) (y : Nat) : E <+: bAdd c E y := by
  unfold bAdd; split
  · exact List.prefix_refl _
  · exact List.prefix_append _ _
theorem bFold_pre (c : Nat) : ∀ (l : List Nat) (E : List Bn), E <+: l.foldl (bAdd c) E
  | [], E => List.prefix_refl _
  | k :: l, E => (bAdd_pre c E k).trans (bFold_pre c l _)
theorem bExpJ_pre (nx : Nat → List Nat) (E : List Bn) (i j : Nat) : E <+: bExpJ nx E i j := bFold_pre _ _ _
theorem bPre_at {l l' : List Bn} (h : l <+: l') {i : Nat} (hi : i < l.length) : l'[i]! = l[i]! := by
  obtain ⟨t, rfl⟩ := h
  rw [getElem!_pos (l ++ t) i (by simp; omega), getElem!_pos l i hi, List.getElem_append_left]
theorem bMem {E : List Bn} {i : Nat} (h : i < E.length) : E[i]! ∈ E := by rw [getElem!_pos E i h]; exact List.getElem_mem h
theorem bIdx {E : List Bn} {e : Bn} (h : e ∈ E) : ∃ i, i < E.length ∧ E[i]! = e := by
  obtain ⟨i, hi, he⟩ := List.mem_iff_getElem.1 h
  exact ⟨i, hi, by rw [getElem!_pos E i hi]; exact he⟩
theorem BOk.add {nx : Nat → List Nat} {S : List Nat} {E : List Bn} {i j : Nat} (hn : bNx nx) (h : BOk nx S E i j) (hi : i < E.length) (hj : j < (nx (E[i]!).1).length) : BOk nx S (bAdd ((E[i]!).2 + 1) E (nx (E[i]!).1)[j]!) i (j + 1) := by
  obtain ⟨y, hy⟩ : ∃ y, y = (nx (E[i]!).1)[j]! := ⟨_, rfl⟩
  have hyn : y ∈ nx (E[i]!).1 := by rw [hy, getElem!_pos _ j hj]; exact List.getElem_mem hj
  have hyl : y < 768 := hn _ (h.lt _ (bMem hi)) y hyn
  rw [← hy]
  cases ha : E.any (fun e => e.1 == y)
  · rw [bAdd_no ha]
    have hne : ∀ e ∈ E, e.1 ≠ y := fun e he h' => by
      have := (List.any_eq_false.1 ha) e he
      simp [h'] at this
    have ei : (E ++ [(y, (E[i]!).2 + 1)])[i]! = E[i]! := bApp_l hi
    refine ⟨?_, ?_, ?_, ?_, ?_, ?_, ?_, ?_⟩
    · rw [List.map_append, List.nodup_append]
      refine ⟨h.nd, by simp, fun a ha b hb hab => ?_⟩
      obtain ⟨e, he, rfl⟩ := List.mem_map.1 ha
      have : b = y := by simpa using hb
      exact hne e he (by rw [hab, this])
    · intro e he
      rw [List.mem_append] at he
      rcases he with he | he
      · exact h.lt e he
      · have : e = (y, (E[i]!).2 + 1) := by simpa using he
        rw [this]; exact hyl
    · intro a b hab hb
      simp only [List.length_append, List.length_singleton] at hb
      rcases Nat.lt_or_ge b E.length with hbl | hbl
      · rw [bApp_l hbl, bApp_l (by omega)]; exact h.so a b hab hbl
      · obtain rfl : b = E.length := by omega
        rw [bApp_r]
        rcases Nat.lt_or_ge a E.length with hal | hal
        · rw [bApp_l hal]; exact h.hi hi a hal
        · obtain rfl : a = E.length := by omega
          rw [bApp_r]; exact Nat.le_refl _
    · intro _ b hb
      simp only [List.length_append, List.length_singleton] at hb
      rw [ei]
      rcases Nat.lt_or_ge b E.length with hbl | hbl
      · rw [bApp_l hbl]; exact h.hi hi b hbl
      · obtain rfl : b = E.length := by omega
        rw [bApp_r]; exact Nat.le_refl _
    · intro a hai _ y' hy'
      rw [bApp_l (by omega)] at hy' ⊢
      obtain ⟨e, he, h1, h2⟩ := h.cl a hai (by omega) y' hy'
      exact ⟨e, by simp [he], h1, h2⟩
    · intro y' hy'
      rw [ei] at hy' ⊢
      rw [bTake hj, List.mem_append] at hy'
      rcases hy' with hy' | hy'
      · obtain ⟨e, he, h1, h2⟩ := h.pj y' hy'
        exact ⟨e, by simp [he], h1, h2⟩
      · have : y' = y := by rw [hy]; simpa using hy'
        subst this
        exact ⟨(y', (E[i]!).2 + 1), by simp, rfl, Nat.le_refl _⟩
    · intro e he
      rw [List.mem_append] at he
      rcases he with he | he
      · exact h.sd e he
      · have : e = (y, (E[i]!).2 + 1) := by simpa using he
        subst this
        obtain ⟨s, hs, hw⟩ := h.sd _ (bMem hi)
        exact ⟨s, hs, _, hw, hyn⟩
    · intro s hs
      obtain ⟨e, he, h1, h2⟩ := h.st s hs
      exact ⟨e, by simp [he], h1, h2⟩
  · rw [bAdd_yes ha]
    refine ⟨h.nd, h.lt, h.so, h.hi, h.cl, ?_, h.sd, h.st⟩
    intro y' hy'
    rw [bTake hj, List.mem_append] at hy'
    rcases hy' with hy' | hy'
    · exact h.pj y' hy'
    · have : y' = y := by rw [hy]; simpa using hy'
      subst this
      obtain ⟨e, he, h1⟩ := List.any_eq_true.1 ha
      have h1 : e.1 = y' := by simpa using h1
      obtain ⟨b, hb, rfl⟩ := bIdx he
      exact ⟨_, he, h1, h.hi hi b hb⟩
theorem BOk.exp {nx : Nat → List Nat} {S : List Nat} {E : List Bn} {i : Nat} (hn : bNx nx) (h : BOk nx S E i 0) (hi : i < E.length) : ∀ j, j ≤ (nx (E[i]!).1).length → BOk nx S (bExpJ nx E i j) i j
  | 0, _ => by simpa [bExpJ] using h
  | j + 1, hj => by
    have ih := BOk.exp hn h hi j (by omega)
    have hp := bExpJ_pre nx E i j
    have hat := bPre_at hp hi
    rw [bExpJ_step nx E i (by omega)]
    have := ih.add hn (Nat.lt_of_lt_of_le hi hp.length_le) (by rw [hat]; omega)
    rwa [hat] at this
theorem BOk.next {nx : Nat → List Nat} {S : List Nat} {E : List Bn} {i : Nat} (hn : bNx nx) (h : BOk nx S E i 0) (hi : i < E.length) : BOk nx S (bExp nx E i) (i + 1) 0 := by
  have h1 := h.exp hn hi _ (Nat.le_refl _)
  have hp := bExpJ_pre nx E i (nx (E[i]!).1).length
  have hat := bPre_at hp hi
  have hil := Nat.lt_of_lt_of_le hi hp.length_le
  have hall : ∀ y ∈ nx (E[i]!).1, ∃ e ∈ bExp nx E i, e.1 = y ∧ e.2 ≤ (E[i]!).2 + 1 := by
    have := h1.pj
    rw [hat, List.take_length] at this
    exact this
  refine ⟨h1.nd, h1.lt, h1.so, ?_, ?_, fun y hy => by simp at hy, h1.sd, h1.st⟩
  · intro hl b hb
    have h2 := h1.hi hil b hb
    have h3 := h1.so i (i + 1) (by omega) hl
    show _ ≤ ((bExpJ nx E i (nx (E[i]!).1).length)[i + 1]!).2 + 1
    exact Nat.le_trans h2 (Nat.add_le_add_right h3 1)
  · intro a ha hal y hy
    rcases Nat.lt_or_ge a i with hai | hai
    · exact h1.cl a hai hal y hy
    · obtain rfl : a = i := by omega
      have e : (bExp nx E a)[a]! = E[a]! := hat
      rw [e] at hy ⊢
      exact hall y hy
theorem bfE_ok {nx : Nat → List Nat} {S : List Nat} {E0 : List Bn} (hn : bNx nx) (h : BOk nx S E0 0 0) : ∀ i, BOk nx S (bfE nx E0 i) i 0
  | 0 => h
  | i + 1 => by
    have ih := bfE_ok hn h i
    show BOk nx S (if i < (bfE nx E0 i).length then bExp nx (bfE nx E0 i) i else bfE nx E0 i) (i + 1) 0
    split
    · rename_i hi; exact ih.next hn hi
    · rename_i hi
      refine ⟨ih.nd, ih.lt, ih.so, fun hl => by omega, fun a ha hal => ih.cl a (by omega) hal, fun y hy => by simp at hy, ih.sd, ih.st⟩
theorem b_start {nx : Nat → List Nat} {S : List Nat} (hS : S.Nodup) (hl : ∀ s ∈ S, s < 768) : BOk nx S (S.map fun s => ((s, 0) : Bn)) 0 0 := by
  have hz : ∀ b, b < (S.map fun s => ((s, 0) : Bn)).length → ((S.map fun s => ((s, 0) : Bn))[b]!).2 = 0 := fun b hb => by
    have := bMem hb
    obtain ⟨s, -, hs⟩ := List.mem_map.1 this
    rw [← hs]
  refine ⟨?_, ?_, ?_, ?_, fun a ha => by omega, fun y hy => by simp at hy, ?_, ?_⟩
  · rw [List.map_map]
    have : ((fun e : Bn => e.1) ∘ fun s => ((s, 0) : Bn)) = id := rfl
    rw [this, List.map_id]; exact hS
  · intro e he
    obtain ⟨s, hs, rfl⟩ := List.mem_map.1 he
    exact hl s hs
  · intro a b hab hb
    rw [hz b hb, hz a (by omega)]; exact Nat.le_refl _
  · intro h0 b hb
    rw [hz b hb]; omega
  · intro e he
    obtain ⟨s, hs, rfl⟩ := List.mem_map.1 he
    exact ⟨s, hs, rfl⟩
  · intro s hs
    exact ⟨(s, 0), List.mem_map.2 ⟨s, hs, rfl⟩, rfl, rfl⟩
/-! The ends of the search -/
theorem bfE_end {nx : Nat → List Nat} {E0 : List Bn} {i : Nat} (h : (bfE nx E0 i).length ≤ i) : ∀ d, bfE nx E0 (i + d) = bfE nx E0 i
  | 0 => rfl
  | d + 1 => by
    have ih := bfE_end h d
    show (if i + d < (bfE nx E0 (i + d)).length then bExp nx (bfE nx E0 (i + d)) (i + d) else bfE nx E0 (i + d)) = _
    rw [ih, if_neg (by omega)]
theorem bfF_eq {nx : Nat → List Nat} {E0 : List Bn} {i : Nat} (hi : i ≤ 768) (h : (bfE nx E0 i).length ≤ i) : bfF nx E0 = bfE nx E0 i := by
  unfold bfF
  rw [show 768 = i + (768 - i) from by omega, bfE_end h]
theorem bfE_next {nx : Nat → List Nat} {E0 : List Bn} {i : Nat} (hi : i < (bfE nx E0 i).length) : bfE nx E0 (i + 1) = bExp nx (bfE nx E0 i) i := by
  show (if i < (bfE nx E0 i).length then _ else _) = _
  rw [if_pos hi]
theorem bD_some {E : List Bn} {y : Nat} {e : Bn} (hn : (E.map (·.1)).Nodup) (he : e ∈ E) (h : e.1 = y) : bD E y = (e.2 : Int) := by
  unfold bD
  cases hf : E.find? (fun e => e.1 == y) with
  | none =>
    have := List.find?_eq_none.1 hf e he
    simp [h] at this
  | some e' =>
    have h1 : e'.1 = y := by simpa using List.find?_some hf
    have h2 := List.mem_of_find?_eq_some hf
    have : e = e' := by
      have h3 := h.trans h1.symm
      clear hf h h1
      induction E with
      | nil => cases he
      | cons a E ih =>
        rw [List.map_cons, List.nodup_cons] at hn
        rw [List.mem_cons] at he h2
        rcases he with rfl | he <;> rcases h2 with rfl | h2
        · rfl
        · exact absurd (List.mem_map.2 ⟨e', h2, h3.symm⟩) hn.1
        · exact absurd (List.mem_map.2 ⟨e, he, h3⟩) hn.1
        · exact ih hn.2 he h2
    rw [this]
theorem bD_none {E : List Bn} {y : Nat} (h : E.any (fun e => e.1 == y) = false) : bD E y = -1 := by
  unfold bD
  cases hf : E.find? (fun e => e.1 == y) with
  | none => rfl
  | some e' =>
    have h2 := List.mem_of_find?_eq_some hf
    have h1 := List.find?_some hf
    have := List.any_eq_false.1 h e' h2
    exact absurd h1 this
theorem bD_neg {E : List Bn} {y : Nat} : (bD E y < 0) ↔ E.any (fun e => e.1 == y) = false := by
  constructor
  · intro h
    cases ha : E.any (fun e => e.1 == y)
    · rfl
    · obtain ⟨e, he, h1⟩ := List.any_eq_true.1 ha
      unfold bD at h
      cases hf : E.find? (fun e => e.1 == y) with
      | none => have := List.find?_eq_none.1 hf e he; exact absurd h1 this
      | some e' => rw [hf] at h; simp at h; omega
  · intro h
    rw [bD_none h]; omega
/-- The answer c of a search from S at y. -/
def bAns (nx : Nat → List Nat) (S : List Nat) (y : Nat) (c : Int) : Prop := (c = -1 ∧ ∀ k s, s ∈ S → ¬ bWalk nx k s y) ∨ (0 ≤ c ∧ (∃ s ∈ S, bWalk nx c.toNat s y) ∧ ∀ k s, s ∈ S → bWalk nx k s y → c ≤ (k : Int))
theorem bAns_one {nx : Nat → List Nat} {S : List Nat} {y : Nat} {c d : Int} (h : bAns nx S y c) (h' : bAns nx S y d) : c = d := by
  rcases h with ⟨h1, h2⟩ | ⟨h1, ⟨s, hs, hw⟩, h3⟩ <;> rcases h' with ⟨k1, k2⟩ | ⟨k1, ⟨t, ht, kw⟩, k3⟩
  · omega
  · exact absurd kw (h2 _ _ ht)
  · exact absurd hw (k2 _ _ hs)
  · have := h3 _ _ ht kw
    have := k3 _ _ hs hw
    omega
theorem bf_walk {nx : Nat → List Nat} {S : List Nat} {F : List Bn} (h : BOk nx S F 768 0) : ∀ (k s y : Nat), s ∈ S → bWalk nx k s y → ∃ e ∈ F, e.1 = y ∧ e.2 ≤ k
  | 0, s, y, hs, hw => by
    obtain ⟨e, he, h1, h2⟩ := h.st s hs
    have hw : s = y := hw
    exact ⟨e, he, by rw [h1, hw], by omega⟩
  | k + 1, s, y, hs, hw => by
    obtain ⟨z, hz, hy⟩ := hw
    obtain ⟨e, he, h1, h2⟩ := bf_walk h k s z hs hz
    obtain ⟨a, ha, rfl⟩ := bIdx he
    rw [← h1] at hy
    obtain ⟨e', he', k1, k2⟩ := h.cl a (by have := h.le; omega) ha y hy
    exact ⟨e', he', k1, by omega⟩
theorem bf_ans {nx : Nat → List Nat} {S : List Nat} {F : List Bn} (h : BOk nx S F 768 0) (y : Nat) : bAns nx S y (bD F y) := by
  cases ha : F.any (fun e => e.1 == y)
  · refine .inl ⟨bD_none ha, fun k s hs hw => ?_⟩
    obtain ⟨e, he, h1, -⟩ := bf_walk h k s y hs hw
    have := List.any_eq_false.1 ha e he
    simp [h1] at this
  · obtain ⟨e, he, h1⟩ := List.any_eq_true.1 ha
    have h1 : e.1 = y := by simpa using h1
    rw [bD_some h.nd he h1]
    refine .inr ⟨by omega, ?_, fun k s hs hw => ?_⟩
    · obtain ⟨s, hs, hw⟩ := h.sd e he
      exact ⟨s, hs, by rw [Int.toNat_natCast, ← h1]; exact hw⟩
    · obtain ⟨e', he', k1, k2⟩ := bf_walk h k s y hs hw
      have e1 := bD_some h.nd he h1
      have e2 := bD_some h.nd he' k1
      omega
/-- From a symmetric step: walks lead back. -/
theorem bWalk_cons {nx : Nat → List Nat} {z : Nat} : ∀ {k y s : Nat}, z ∈ nx y → bWalk nx k z s → bWalk nx (k + 1) y s
  | 0, y, s, h, hw => ⟨y, rfl, by have hw : z = s := hw; rw [← hw]; exact h⟩
  | k + 1, y, s, h, ⟨u, hu, hs⟩ => ⟨u, bWalk_cons h hu, hs⟩
theorem bWalk_lt {nx : Nat → List Nat} (hn : bNx nx) : ∀ {k s y : Nat}, s < 768 → bWalk nx k s y → y < 768
  | 0, s, y, hs, hw => by have hw : s = y := hw; omega
  | k + 1, s, y, hs, ⟨z, hz, hy⟩ => hn z (bWalk_lt hn hs hz) y hy
theorem bWalk_rev {nx : Nat → List Nat} (hn : bNx nx) (hsym : ∀ x y, x < 768 → y ∈ nx x → x ∈ nx y) : ∀ {k s y : Nat}, s < 768 → bWalk nx k s y → bWalk nx k y s
  | 0, s, y, hs, hw => by have hw : s = y := hw; exact hw.symm
  | k + 1, s, y, hs, ⟨z, hz, hy⟩ => bWalk_cons (hsym z y (bWalk_lt hn hs hz) hy) (bWalk_rev hn hsym hs hz)
end Go.KD

namespace Go.KD
open Go.RowKit
def wSt (m : Wk) (x l : Nat) (a : Int) : Nat := (doP m x l a).1.toNat * 64 + (doP m x l a).2.toNat
def nxW (m : Wk) (i : Nat) : List Nat := if ((i / 64 : Nat) : Int) < m.size then (actsL m (i / 64 : Nat) (i % 64 : Nat)).map (fun a => wSt m (i / 64) (i % 64) a) else []
theorem pull_small {m : Wk} (ok : WkOk m) {x : Nat} (hx : (x : Int) < m.size) : 0 ≤ m.pulls[x]! ∧ m.pulls[x]! < 64 := by
  have := ok.pl x (by have := ok.np; omega)
  rw [setB_true] at this
  omega
theorem do_nat {m : Wk} (ok : WkOk m) {x l : Nat} (hx : (x : Int) < m.size) (hl : l < 64) {a : Int} (ha : a ∈ actsL m x l) : ∃ y k : Nat, doP m x l a = ((y : Int), (k : Int)) ∧ (y : Int) < m.size ∧ k < 64 ∧ wSt m x l a = y * 64 + k := by
  have hr := act_range ok hx (by rw [hasI_iff]; exact ha)
  rcases hr with rfl | ⟨h0, h1⟩
  · have hp := pull_small ok hx
    have hx2 := xorV_small (a := (l : Int)) (b := m.pulls[x]!) (by omega) hp
    refine ⟨x, (xorV l m.pulls[x]!).toNat, ?_, hx, by omega, ?_⟩
    · simp only [doP]; rw [if_pos (by omega)]
      simp only [Int.toNat_natCast]
      rw [Int.toNat_of_nonneg hx2.1]
    · simp [wSt, doP]
  · refine ⟨a.toNat, l, ?_, by omega, hl, ?_⟩
    · simp only [doP]; rw [if_neg (by omega)]
      rw [Int.toNat_of_nonneg h0]
    · simp only [wSt, doP]; rw [if_neg (by omega)]
      simp
theorem nxW_in {m : Wk} {i j : Nat} (h : j ∈ nxW m i) : ((i / 64 : Nat) : Int) < m.size ∧ ∃ a ∈ actsL m (i / 64 : Nat) (i % 64 : Nat), wSt m (i / 64) (i % 64) a = j := by
  unfold nxW at h
  split at h
  · rename_i hx
    exact ⟨hx, List.mem_map.1 h⟩
  · cases h
theorem nxW_lt {m : Wk} (ok : WkOk m) : bNx (nxW m) := by
  intro i hi j hj
  obtain ⟨hx, a, ha, rfl⟩ := nxW_in hj
  obtain ⟨y, k, -, hy, hk, he⟩ := do_nat ok hx (Nat.mod_lt _ (by omega)) ha
  have := ok.s2
  omega
theorem nxW_bound {m : Wk} (ok : WkOk m) {i j : Nat} (hj : j ∈ nxW m i) : ((j / 64 : Nat) : Int) < m.size := by
  obtain ⟨hx, a, ha, rfl⟩ := nxW_in hj
  obtain ⟨y, k, -, hy, hk, he⟩ := do_nat ok hx (Nat.mod_lt _ (by omega)) ha
  rw [he]
  have : (y * 64 + k) / 64 = y := by omega
  rw [this]; exact hy
theorem setN_bitW (s : Nat) (a : Int) (i : Nat) : (setN s a).testBit i = (s.testBit i || decide (a.toNat = i)) := by
  unfold setN; rw [Nat.testBit_or, Nat.testBit_two_pow]
theorem nb_bit {m : Wk} (ok : WkOk m) (x : Nat) (l : Int) (y : Nat) : ∀ n, n ≤ m.gates.length → ((nbK m.gates x l n).testBit y = true ↔ ∃ k, k < n ∧ openB m.gates[k]! l = true ∧ ((m.gates[k]!.2.1 = x ∧ m.gates[k]!.1 = y) ∨ (m.gates[k]!.1 = x ∧ m.gates[k]!.2.1 = y)))
  | 0, _ => by simp [nbK]
  | n + 1, hn => by
    have ih := nb_bit ok x l y n (by omega)
    rw [nb_step (by omega)]
    obtain ⟨a, b, c, d, hg⟩ : ∃ a b c d, m.gates[n]! = (a, b, c, d) := ⟨_, _, _, _, rfl⟩
    have f := gate_facts ok (by omega) hg
    have key : (adjG x l (nbK m.gates x l n) m.gates[n]!).testBit y = true ↔ ((nbK m.gates x l n).testBit y = true ∨ (openB m.gates[n]! l = true ∧ ((m.gates[n]!.2.1 = x ∧ m.gates[n]!.1 = y) ∨ (m.gates[n]!.1 = x ∧ m.gates[n]!.2.1 = y)))) := by
      rw [hg]
      unfold adjG
      dsimp only
      by_cases ho : openB (a, b, c, d) l = true
      · rw [if_pos ho]
        have d1 : decide (a.toNat = y) = decide (a = (y : Int)) := by rw [decide_eq_decide]; omega
        have d2 : decide (b.toNat = y) = decide (b = (y : Int)) := by rw [decide_eq_decide]; omega
        have hb : ∀ s : Nat, (if b = (x : Int) then setN (if a = (x : Int) then setN s b else s) a else (if a = (x : Int) then setN s b else s)).testBit y = ((s.testBit y || (decide (a = (x : Int)) && decide (b = (y : Int)))) || (decide (b = (x : Int)) && decide (a = (y : Int)))) := by
          intro s
          by_cases h1 : b = (x : Int)
          · rw [if_pos h1, setN_bitW, d1, decide_eq_true h1]
            by_cases h2 : a = (x : Int)
            · rw [if_pos h2, setN_bitW, d2, decide_eq_true h2]; simp
            · rw [if_neg h2, decide_eq_false h2]; simp
          · rw [if_neg h1, decide_eq_false h1]
            by_cases h2 : a = (x : Int)
            · rw [if_pos h2, setN_bitW, d2, decide_eq_true h2]; simp
            · rw [if_neg h2, decide_eq_false h2]; simp
        rw [hb]
        simp only [Bool.or_eq_true, Bool.and_eq_true, decide_eq_true_eq]
        constructor
        · rintro ((h | h) | h)
          · exact .inl h
          · exact .inr ⟨ho, .inr h⟩
          · exact .inr ⟨ho, .inl h⟩
        · rintro (h | ⟨-, h | h⟩)
          · exact .inl (.inl h)
          · exact .inr h
          · exact .inl (.inr h)
      · rw [if_neg ho]
        simp [ho]
    rw [key, ih]
    constructor
    · rintro (⟨k, hk, h⟩ | h)
      · exact ⟨k, by omega, h⟩
      · exact ⟨n, by omega, h⟩
    · rintro ⟨k, hk, h⟩
      rcases Nat.lt_or_ge k n with hkn | hkn
      · exact .inl ⟨k, hkn, h⟩
      · obtain rfl : k = n := by omega
        exact .inr h
theorem act_pull {m : Wk} {x l : Nat} : (-1 : Int) ∈ actsL m x l ↔ m.pulls[x]! ≠ 0 := by
  unfold actsL
  rw [List.mem_append, Int.toNat_natCast]
  constructor
  · rintro (h | h)
    · split at h
      · cases h
      · assumption
    · rw [in_mem] at h
      obtain ⟨i, -, -, h⟩ := h
      omega
  · intro h
    left
    rw [if_neg h]; simp
theorem act_move {m : Wk} (ok : WkOk m) {x l y : Nat} (hy : y < 40) : ((y : Int) ∈ actsL m x l) ↔ ∃ k, k < m.gates.length ∧ openB m.gates[k]! l = true ∧ ((m.gates[k]!.2.1 = x ∧ m.gates[k]!.1 = y) ∨ (m.gates[k]!.1 = x ∧ m.gates[k]!.2.1 = y)) := by
  rw [← nb_bit ok x l y _ (Nat.le_refl _)]
  unfold actsL
  rw [List.mem_append, in_mem]
  constructor
  · rintro (h | ⟨i, -, h, he⟩)
    · split at h
      · cases h
      · rw [List.mem_singleton] at h
        omega
    · have : y = i := by omega
      rw [this]; exact h
  · intro h
    exact .inr ⟨y, hy, h, rfl⟩
theorem xor_back (a b : Nat) : (a ^^^ b) ^^^ b = a := by rw [Nat.xor_assoc, Nat.xor_self, Nat.xor_zero]
theorem nxW_sym {m : Wk} (ok : WkOk m) : ∀ i j, i < 768 → j ∈ nxW m i → i ∈ nxW m j := by
  intro i j hi hj
  have hb := nxW_bound ok hj
  obtain ⟨hx, a, ha, rfl⟩ := nxW_in hj
  obtain ⟨x, hxe⟩ : ∃ x, x = i / 64 := ⟨_, rfl⟩
  obtain ⟨l, hle⟩ : ∃ l, l = i % 64 := ⟨_, rfl⟩
  have hl : l < 64 := by rw [hle]; exact Nat.mod_lt _ (by omega)
  have hie : x * 64 + l = i := by omega
  rw [← hxe] at hx ha
  rw [← hle] at ha
  rw [← hxe, ← hle] at hj hb ⊢
  have hs2 := ok.s2
  obtain ⟨y, k, hd, hy, hk, he⟩ := do_nat ok hx hl ha
  have e1 : wSt m x l a / 64 = y := by rw [he]; omega
  have e2 : wSt m x l a % 64 = k := by rw [he]; omega
  unfold nxW
  rw [e1, e2, if_pos hy, List.mem_map]
  rcases act_range ok hx (by rw [hasI_iff]; exact ha) with rfl | ⟨h0, h1⟩
  · have hp := pull_small ok hx
    have hpz := act_pull.1 ha
    have hd' : doP m x l (-1) = ((x : Int), xorV l m.pulls[x]!) := by simp only [doP]; rw [if_pos (by omega)]; simp
    rw [hd'] at hd
    simp only [Prod.mk.injEq] at hd
    have hxy : x = y := by omega
    subst hxy
    have hkv : k = l ^^^ m.pulls[x]!.toNat := by have := hd.2; simp only [xorV, Int.toNat_natCast] at this; omega
    refine ⟨-1, act_pull.2 hpz, ?_⟩
    have hd2 : doP m x k (-1) = ((x : Int), xorV k m.pulls[x]!) := by simp only [doP]; rw [if_pos (by omega)]; simp
    unfold wSt
    rw [hd2]
    simp only [xorV, Int.toNat_natCast]
    rw [hkv, xor_back]; exact hie
  · obtain ⟨an, rfl⟩ := Int.eq_ofNat_of_zero_le h0
    have hd' : doP m x l (an : Int) = ((an : Int), (l : Int)) := by simp only [doP]; rw [if_neg (by omega)]
    rw [hd'] at hd
    simp only [Prod.mk.injEq] at hd
    have hay : an = y := by omega
    have hlk : l = k := by omega
    subst hay hlk
    obtain ⟨q, hq, ho, hg⟩ := (act_move ok (by omega)).1 ha
    refine ⟨(x : Int), (act_move ok (by omega)).2 ⟨q, hq, ho, ?_⟩, ?_⟩
    · rcases hg with ⟨g1, g2⟩ | ⟨g1, g2⟩
      · exact .inr ⟨g2, g1⟩
      · exact .inl ⟨g2, g1⟩
    · have hd2 : doP m an l (x : Int) = ((x : Int), (l : Int)) := by simp only [doP]; rw [if_neg (by omega)]
      unfold wSt
      rw [hd2]
      simp only [Int.toNat_natCast]
      exact hie
/-- The grid of a search. -/
def gridL (E : List Bn) : List Int := (List.range 768).map fun i => bD E i
theorem gridL_len (E : List Bn) : (gridL E).length = 768 := by simp [gridL]
theorem gridL_at (E : List Bn) {i : Nat} (h : i < 768) : (gridL E)[i]! = bD E i := by
  rw [getElem!_pos _ i (by rw [gridL_len]; exact h)]; simp [gridL]
theorem bD_snoc_same {E : List Bn} {y c : Nat} (h : E.any (fun e => e.1 == y) = false) : bD (E ++ [(y, c)]) y = (c : Int) := by
  unfold bD
  rw [List.find?_append]
  have : E.find? (fun e => e.1 == y) = none := by
    rw [List.find?_eq_none]
    intro e he
    have := List.any_eq_false.1 h e he
    simpa using this
  rw [this]; simp
theorem bD_snoc_other {E : List Bn} {y c z : Nat} (h : y ≠ z) : bD (E ++ [(y, c)]) z = bD E z := by
  unfold bD
  rw [List.find?_append]
  have : ([(y, c)] : List Bn).find? (fun e => e.1 == z) = none := by simp [h]
  rw [this, Option.or_none]
theorem gridL_snoc {E : List Bn} {y c : Nat} (h : E.any (fun e => e.1 == y) = false) (hy : y < 768) : (gridL E).set y (c : Int) = gridL (E ++ [(y, c)]) := by
  apply List.ext_getElem
  · rw [List.length_set, gridL_len, gridL_len]
  · intro i h1 h2
    rw [gridL_len] at h2
    rw [List.getElem_set]
    have e1 : ∀ F : List Bn, ∀ hh : i < (gridL F).length, (gridL F)[i] = bD F i := fun F hh => by simp [gridL]
    split
    · rename_i e
      subst e
      rw [e1, bD_snoc_same h]
    · rename_i e
      rw [e1, e1, bD_snoc_other e]
theorem gridL_nil : gridL [] = List.replicate 768 (-1) := by
  obtain ⟨N, hN⟩ : ∃ N : Nat, N = 768 := ⟨_, rfl⟩
  unfold gridL
  rw [← hN]
  apply List.ext_getElem
  · simp
  · intro i h1 h2
    rw [List.getElem_map, List.getElem_replicate]; rfl
/-- A number as a visit. -/
def prN (i : Nat) : Int × Int := (((i / 64 : Nat) : Int), ((i % 64 : Nat) : Int))
def prs (E : List Bn) : List (Int × Int) := E.map fun e => prN e.1
end Go.KD

namespace Go.KD
open Go.RowKit
theorem box3W {w wX : World} {T : TypeId} {a b c : Value} {B : Nat} (h : Below B (w.alloc (.cells #[a, b, c] T)) wX) (hB : w.heap.size < B) : wX.cell? ⟨w.heap.size, 0, none⟩ = some a ∧ wX.cell? ⟨w.heap.size, 1, none⟩ = some b ∧ wX.cell? ⟨w.heap.size, 2, none⟩ = some c ∧ w.heap.size < wX.heap.size := by
  refine ⟨?_, ?_, ?_, ?_⟩
  · rw [h.cell (p := ⟨w.heap.size, 0, none⟩) hB]; simp [go_sem]
  · rw [h.cell (p := ⟨w.heap.size, 1, none⟩) hB]; simp [go_sem]
  · rw [h.cell (p := ⟨w.heap.size, 2, none⟩) hB]; simp [go_sem]
  · have := h.size; simp at this; omega
theorem below_boxW {w wX : World} {o : Obj} {B : Nat} (h : Below B (w.alloc o) wX) (hB : w.heap.size ≤ B) : Below w.heap.size w wX := ((Below.refl _ _).alloc (Nat.le_refl _) o).trans (h.mono hB)
theorem own_belowW {w w' : World} {lo size n : Nat} {e : TypeId} {v : Value} {xs : List Value} (h : w.ownsRow lo e size v n xs) (hb : Below w.heap.size w w') : w'.ownsRow lo e size v n xs := ((Own.of h).later hb (Nat.le_refl _)).row
theorem own_grownW {w w' : World} {lo size n g r : Nat} {e : TypeId} {a c : Nat} {xs : List Value} (h : w.ownsRow lo e size (.slice (some ⟨g, a, none⟩) n c) n xs) (hb : w.grownBy w' (some r)) (hr : r ≠ g) : w'.ownsRow lo e size (.slice (some ⟨g, a, none⟩) n c) n xs := by
  refine ((Own.of h).grown_ne hb (fun b hbb e => ?_)).row
  have h1 : g = b := by simpa [Value.ownBlock] using hbb
  have h2 : r = b := by simpa using e
  exact hr (h2.trans h1.symm)
theorem own_intW {w : World} {lo g n cap : Nat} {e : TypeId} {L : List Int} (h : w.ownsRow lo e 1 (.slice (some ⟨g, 0, none⟩) n cap) n (ints L)) (c : Nat) (hc : c < n) (hl : L.length = n) : w.cell? ⟨g, c, none⟩ = some (.int .i64 L[c]!) := by
  rw [h.cellAt c (by omega), ints, List.getElem?_map, List.getElem?_eq_getElem (by omega), getElem!_pos L c (by omega)]
  rfl
theorem own_lt {w : World} {lo g n cap size : Nat} {e : TypeId} {xs : List Value} (h : w.ownsRow lo e size (.slice (some ⟨g, 0, none⟩) n cap) n xs) : g < w.heap.size := (Own.of h).top g rfl
theorem own_litW {W : World} {g lo : Nat} {e : TypeId} {v : Value} (h : W.heap[g]? = some (.cells #[v] e)) (hb : lo ≤ g) : W.ownsRow lo e 1 (.slice (some ⟨g, 0, none⟩) 1 1) 1 [v] :=
  ⟨rfl, .inr ⟨g, 1, #[v], rfl, hb, h, Nat.le_refl _, by unfold maxLen; omega, rfl, rfl⟩⟩
theorem own_madeW {base n g : Nat} {e : TypeId} (W : World) (hg : g = W.heap.size) (hb : base ≤ W.heap.size) (hn : n ≤ maxLen) (hm : (madeCells (Value.int .i64 0).cells (n * 1)).toList = ints (List.replicate n 0)) : (W.alloc (.cells (madeCells #[.int .i64 0] n) e)).ownsRow base e 1 (.slice (some ⟨g, 0, none⟩) n n) n (ints (List.replicate n 0)) := by
  subst hg
  have h := World.ownsRow_lit (base := base) (e := e) (size := 1) W (madeCells #[.int .i64 0] n) n hb hn (by simp [madeCells])
  rw [Nat.mul_one] at hm
  rw [show (madeCells #[Value.int .i64 0] n).toList = ints (List.replicate n 0) from hm] at h
  exact h
theorem ic_grownW {w w' : World} {r g off : Nat} {l : List Int} (h : IC w (some ⟨g, off, none⟩) l) (hg : w.grownBy w' (some r)) (hr : r ≠ g) : IC w' (some ⟨g, off, none⟩) l := by
  intro k hk
  obtain ⟨b, o, hb, hbs, hc⟩ := h k hk
  cases hb
  exact ⟨g, off, rfl, Nat.lt_of_lt_of_le hbs hg.size, by rw [← hc]; exact World.cell?_of_block (hg.block g hbs (fun e => hr (by simpa using e.symm)))⟩
def idsE (E : List Bn) : List Int := E.map fun e => (e.1 : Int)
@[simp] theorem idsE_len (E : List Bn) : (idsE E).length = E.length := by simp [idsE]
theorem idsE_at {E : List Bn} {i : Nat} (h : i < E.length) : (idsE E)[i]! = ((E[i]!).1 : Int) := by
  rw [getElem!_pos _ i (by simpa using h), getElem!_pos E i h]; simp [idsE]
theorem idsE_snoc (E : List Bn) (y c : Nat) : idsE (E ++ [(y, c)]) = idsE E ++ [(y : Int)] := by simp [idsE]
/-- The first n answers of a search. -/
def gridN (n : Nat) (E : List Bn) : List Int := (List.range n).map fun i => bD E i
theorem gridN_len (n : Nat) (E : List Bn) : (gridN n E).length = n := by simp [gridN]
theorem gridN_at (n : Nat) (E : List Bn) {i : Nat} (h : i < n) : (gridN n E)[i]! = bD E i := by
  rw [getElem!_pos _ i (by rw [gridN_len]; exact h)]; simp [gridN]
theorem gridN_snoc {n : Nat} {E : List Bn} {y c : Nat} (h : E.any (fun e => e.1 == y) = false) (hy : y < n) : (gridN n E).set y (c : Int) = gridN n (E ++ [(y, c)]) := by
  apply List.ext_getElem
  · rw [List.length_set, gridN_len, gridN_len]
  · intro i h1 h2
    rw [gridN_len] at h2
    rw [List.getElem_set]
    have e1 : ∀ F : List Bn, ∀ hh : i < (gridN n F).length, (gridN n F)[i] = bD F i := fun F hh => by simp [gridN]
    split
    · rename_i e
      subst e
      rw [e1, bD_snoc_same h]
    · rename_i e
      rw [e1, e1, bD_snoc_other e]
def iniN (n k : Nat) : List Int := List.replicate k (-1) ++ List.replicate (n - k) 0
theorem iniN_0 (n : Nat) : iniN n 0 = List.replicate n 0 := by unfold iniN; rw [List.replicate_zero, List.nil_append, Nat.sub_zero]
theorem iniN_len {n k : Nat} (h : k ≤ n) : (iniN n k).length = n := by unfold iniN; rw [List.length_append, List.length_replicate, List.length_replicate]; omega
theorem iniN_all (n : Nat) : iniN n n = gridN n [] := by
  unfold iniN
  rw [Nat.sub_self, List.replicate_zero, List.append_nil]
  apply List.ext_getElem
  · rw [List.length_replicate, gridN_len]
  · intro i h1 h2
    rw [List.getElem_replicate]; simp [gridN, bD]
theorem iniN_next {n k : Nat} (h : k < n) : (iniN n k).set k (-1) = iniN n (k + 1) := by
  unfold iniN
  obtain ⟨d, hd⟩ : ∃ d, n - k = d + 1 := ⟨n - k - 1, by omega⟩
  have e : n - (k + 1) = d := by omega
  rw [e, hd, List.set_append_right _ _ (by rw [List.length_replicate]; exact Nat.le_refl _), List.length_replicate, Nat.sub_self, List.replicate_succ, List.set_cons_zero, List.replicate_succ', List.append_assoc]
  rfl
theorem actsL_leS (m : Wk) (x l : Int) : (actsL m x l).length ≤ 41 := by
  unfold actsL
  rw [List.length_append]
  have h1 : (mem (nbK m.gates x l m.gates.length)).length ≤ 40 := by unfold mem memN; rw [List.length_map]; exact Nat.le_trans (List.length_filter_le _ _) (by simp)
  split
  · simp; omega
  · simp; omega
theorem bfE_costS {nx : Nat → List Nat} {E0 : List Bn} (h0 : ∀ e ∈ E0, e.2 = 0) : ∀ i, ∀ e ∈ bfE nx E0 i, e.2 ≤ i
  | 0, e, he => by have := h0 e he; omega
  | i + 1, e, he => by
    have ih := bfE_costS h0 (nx := nx) i
    change e ∈ (if i < (bfE nx E0 i).length then bExp nx (bfE nx E0 i) i else bfE nx E0 i) at he
    split at he
    · rename_i hi
      have hc := ih _ (bMem hi)
      have : ∀ (l : List Nat) (E : List Bn), (∀ e ∈ E, e.2 ≤ i + 1) → ∀ e ∈ l.foldl (bAdd (((bfE nx E0 i)[i]!).2 + 1)) E, e.2 ≤ i + 1 := by
        intro l
        induction l with
        | nil => intro E h; exact h
        | cons y l ihl =>
          intro E h
          refine ihl _ ?_
          unfold bAdd
          split
          · exact h
          · intro e he
            rw [List.mem_append] at he
            rcases he with he | he
            · exact h e he
            · rw [List.mem_singleton] at he; rw [he]; show _ + 1 ≤ _; omega
      exact this _ _ (fun e he => Nat.le_succ_of_le (ih e he)) e he
    · exact Nat.le_succ_of_le (ih e he)
theorem bf_boundS {m : Wk} (ok : WkOk m) {S : List Nat} {E : List Bn} {i j : Nat} (h : BOk (nxW m) S E i j) (hs : ∀ s ∈ S, ((s / 64 : Nat) : Int) < m.size) : ∀ e ∈ E, ((e.1 / 64 : Nat) : Int) < m.size := by
  intro e he
  obtain ⟨s, hss, hw⟩ := h.sd e he
  generalize e.2 = k at hw
  cases k with
  | zero => have hw : s = e.1 := hw; rw [← hw]; exact hs s hss
  | succ k => obtain ⟨z, -, hz⟩ := hw; exact nxW_bound ok hz
theorem nxW_atS {m : Wk} {x l : Nat} (hx : (x : Int) < m.size) (hl : l < 64) : nxW m (x * 64 + l) = (actsL m (x : Nat) (l : Nat)).map (fun a => wSt m x l a) := by
  unfold nxW
  rw [show (x * 64 + l) / 64 = x from by omega, show (x * 64 + l) % 64 = l from by omega, if_pos hx]
theorem id_ofS (s : Nat) : ∃ x l, s = x * 64 + l ∧ l < 64 ∧ s / 64 = x := ⟨s / 64, s % 64, by omega, Nat.mod_lt _ (by omega), rfl⟩
end Go.KD
namespace Go.Proofs.Ytmilpahggceemaa
open Go.RowKit Go.KD
attribute [local go_sem] later_cell later_frozen
theorem l4Id_c (x l s : Nat) (hs : s = x * 64 + l) (hx : x ≤ 12) (hl : l ≤ 64) (w : World) : Calls Try.prog 162 #[.int .i64 x, .int .i64 l] w fun e w' => e = .returned (.int .i64 (s : Int)) ∧ w = w' := by
  have h1 : (x : Int) ≤ 12 := by omega
  have h2 : (l : Int) ≤ 64 := by omega
  go_enter Try.func162, Try.ntmps162
  go_wp2
  go_ret
  exact ⟨ret_int (by omega), rfl⟩
set_option maxRecDepth 100000 in
set_option maxHeartbeats 16000000 in
theorem l8Spread_c (m : Wk) (ad ak : Option Addr) (cd ck : Nat) (x0 l0 n : Nat) (w : World) (hm : WkAt w (.agg #[.int .i64 m.size, .slice ad m.gates.length cd, .slice ak m.pulls.length ck]) m) (ok : WkOk m) (hx0 : (x0 : Int) < m.size) (hl0 : l0 < 64) (hn : n = m.pulls.length * 64) :
    Calls Try.prog 161 #[(.agg #[.int .i64 m.size, .slice ad m.gates.length cd, .slice ak m.pulls.length ck]), .int .i64 x0, .int .i64 l0, .bool false] w fun e w' => ∃ a c, e = .returned (.slice (some ⟨a, 0, none⟩) n c) ∧ IC w' (some ⟨a, 0, none⟩) (gridN n (bfF (nxW m) [((x0 * 64 + l0, 0) : Bn)])) ∧ Below w.heap.size w w' := by
  obtain ⟨i0, ji, jz0, jz1, jz2⟩ := info_parts infoI
  obtain ⟨E0, hE0⟩ : ∃ E0 : List Bn, E0 = [((x0 * 64 + l0, 0) : Bn)] := ⟨_, rfl⟩
  rw [← hE0]
  obtain ⟨s0, hs0⟩ : ∃ s0, s0 = x0 * 64 + l0 := ⟨_, rfl⟩
  rw [← hs0] at hE0
  obtain ⟨FF, hFF⟩ : ∃ FF, FF = bfF (nxW m) E0 := ⟨_, rfl⟩
  rw [← hFF]
  have HFFF := Lib.hid hFF
  have hs1 := ok.s1
  have hs2 := ok.s2
  have hnp := ok.np
  have hn768 : n ≤ 768 := by omega
  have hn64 : 64 ≤ n := by omega
  have hsn : m.size * 64 = (n : Int) := by omega
  have hid0 : s0 < n := by omega
  have HS0 := Lib.hid hs0
  have HSNW : Hid (∀ z : Nat, (z : Int) < m.size → z < 12 ∧ ∀ k : Nat, k < 64 → z * 64 + k < n) := fun z hz => ⟨by omega, fun k hk => by omega⟩
  have hw1 : IntKind.i64.wrap (m.size * 64) = (n : Int) := by rw [IntKind.wrap_i64]; omega
  have hmk : ∀ W : World, (Instr.makeSlice 24 (.int .i64 n) (.int .i64 n)).run Try.prog W = .ok (.slice (some ⟨W.heap.size, 0, none⟩) n n) (W.alloc (.cells (madeCells #[.int .i64 0] n) 3)) := fun W => run_make_row' 24 3 (.int .i64 0) 8 Try.underlying24 infoI rfl .i64 .i64 n (by omega) (by omega) W
  have HB0 : Hid (Below w.heap.size w (w.alloc (.cells #[.int .i64 m.size, .slice ad m.gates.length cd, .slice ak m.pulls.length ck] 36))) := (Below.refl _ _).alloc (Nat.le_refl _) _
  have HR0 : Hid (World.ownsRow ((w.alloc (.cells #[.int .i64 m.size, .slice ad m.gates.length cd, .slice ak m.pulls.length ck] 36)).alloc (.cells (madeCells #[.int .i64 0] n) 3)) (w.heap.size + 1) 3 1 (.slice (some ⟨w.heap.size + 1, 0, none⟩) n n) n (ints (iniN n 0))) := by
    rw [iniN_0]
    exact own_madeW (w.alloc (.cells #[.int .i64 m.size, .slice ad m.gates.length cd, .slice ak m.pulls.length ck] 36)) (by simp) (by simp) (by unfold maxLen; omega) (madeI n)
  have HBB0 : Hid (Below (w.heap.size + 1) (w.alloc (.cells #[.int .i64 m.size, .slice ad m.gates.length cd, .slice ak m.pulls.length ck] 36)) ((w.alloc (.cells #[.int .i64 m.size, .slice ad m.gates.length cd, .slice ak m.pulls.length ck] 36)).alloc (.cells (madeCells #[.int .i64 0] n) 3))) := (Below.refl _ _).alloc (by simp) _
  have HM := Lib.hid hm
  have HMW : Hid (∀ W, Below (w.heap.size + 1) (w.alloc (.cells #[.int .i64 m.size, .slice ad m.gates.length cd, .slice ak m.pulls.length ck] 36)) W → WkAt W (.agg #[.int .i64 m.size, .slice ad m.gates.length cd, .slice ak m.pulls.length ck]) m) := fun W hW => hm.later (below_boxW hW (by omega))
  have HBO : Hid (∀ i, BOk (nxW m) [s0] (bfE (nxW m) E0 i) i 0) := by rw [hE0]; exact bfE_ok (nxW_lt ok) (b_start (S := [s0]) (by simp) (fun s hs => by rw [List.mem_singleton] at hs; omega))
  have HCO : Hid (∀ i, ∀ e ∈ bfE (nxW m) E0 i, e.2 ≤ i) := bfE_costS (fun e he => by rw [hE0, List.mem_singleton] at he; rw [he])
  have HLS : Hid (∀ s ∈ [s0], ((s / 64 : Nat) : Int) < m.size) := fun s hs => by rw [List.mem_singleton] at hs; rw [hs, show s0 / 64 = x0 from by omega]; exact hx0
  have HE0 := Lib.hid hE0
  have OK := Lib.hid ok
  have hx012 : x0 ≤ 12 := by omega
  have hgi := gridN_snoc (n := n) (E := []) (y := s0) (c := 0) rfl hid0
  have HGI : Hid ((gridN n []).set s0 0 = gridN n E0) := by show _ = _; rw [hE0]; exact hgi
  have HID0 : Hid (ints (idsE E0) = [.int .i64 (s0 : Int)]) := by show _ = _; rw [hE0]; rfl
  have HEL0 : Hid (E0.length = 1) := by show _ = _; rw [hE0]; rfl
  clear hm ok hE0 hFF hn hnp hs0 hgi
  go_enter Try.func161, Try.ntmps161
  go_wp2
  go_loopw [10] (fun iv wr => ∃ k : Nat, iv = .int .i64 k ∧ k ≤ n ∧ Hid (World.ownsRow wr (w.heap.size + 1) 3 1 (.slice (some ⟨w.heap.size + 1, 0, none⟩) n n) n (ints (iniN n k))) ∧ Hid (Below (w.heap.size + 1) (w.alloc (.cells #[.int .i64 m.size, .slice ad m.gates.length cd, .slice ak m.pulls.length ck] 36)) wr)) (fun iv _ => n - (intOf iv).toNat)
  case atStart => exact ⟨0, rfl, Nat.zero_le _, HR0, HBB0⟩
  case round =>
    clear HR0 HBB0 HB0
    obtain ⟨wo, rfl⟩ : ∃ wo : World, wo = wr := ⟨_, rfl⟩
    obtain ⟨k, rfl, hk, HR, HB⟩ := hrel
    by_cases hlt : k < n
    · have hkI : (k : Int) < (n : Int) := by omega
      have c0 := own_intW HR.out k hlt (iniN_len hk)
      have f0 := (own_cell HR.out k (by omega)).2
      obtain ⟨ho3, hg3⟩ := own_store1 HR.out k (-1)
      rw [iniN_next hlt] at ho3
      have HR3 := Lib.hid ho3
      have HB3 : Hid (Below (w.heap.size + 1) (w.alloc (.cells #[.int .i64 m.size, .slice ad m.gates.length cd, .slice ak m.pulls.length ck] 36)) (wo.setCell ⟨w.heap.size + 1, k, none⟩ (.int .i64 (-1)))) := Below.setCell HB.out (Nat.le_refl _) _
      clear ho3 hg3
      go_wp2
      go_roundw
      case rel => exact ⟨k + 1, by go_num, by omega, HR3, HB3⟩
      case measure => simp [intOf]; omega
    · obtain rfl : n = k := by omega
      have HR1 : Hid (World.ownsRow wo (w.heap.size + 1) 3 1 (.slice (some ⟨w.heap.size + 1, 0, none⟩) n n) n (ints (gridN n []))) := by have := HR.out; rw [iniN_all] at this; exact this
      clear HR hlt
      have hzo : w.heap.size + 2 ≤ wo.heap.size := by have h1 := own_lt HR1.out; omega
      have HA : Hid (Below wo.heap.size wo (wo.alloc (.cells #[.int .i64 (s0 : Int)] 3))) := (Below.refl _ _).alloc (Nat.le_refl _) _
      have HR2 : Hid (World.ownsRow (wo.alloc (.cells #[.int .i64 (s0 : Int)] 3)) (w.heap.size + 1) 3 1 (.slice (some ⟨w.heap.size + 1, 0, none⟩) n n) n (ints (gridN n []))) := own_belowW HR1.out HA.out
      have hl0 := own_litW (lo := w.heap.size + 2) (heap_alloc_last wo (.cells #[.int .i64 (s0 : Int)] 3)) hzo
      obtain ⟨ho3, hg3⟩ := own_store1 HR2.out s0 0
      have hl3 := own_grownW hl0 hg3 (by omega)
      have c0 := own_intW HR2.out s0 hid0 (gridN_len _ _)
      have f0 := (own_cell HR2.out s0 (by omega)).2
      have HB2 : Hid (Below (w.heap.size + 1) (w.alloc (.cells #[.int .i64 m.size, .slice ad m.gates.length cd, .slice ak m.pulls.length ck] 36)) ((wo.alloc (.cells #[.int .i64 (s0 : Int)] 3)).setCell ⟨w.heap.size + 1, s0, none⟩ (.int .i64 0))) := Below.setCell (HB.out.trans (HA.out.mono (by omega))) (Nat.le_refl _) _
      obtain ⟨W3, hW3⟩ : ∃ W3, W3 = ((wo.alloc (.cells #[.int .i64 (s0 : Int)] 3)).setCell ⟨w.heap.size + 1, s0, none⟩ (.int .i64 0)) := ⟨_, rfl⟩
      rw [HGI.out] at ho3
      rw [← hW3] at ho3 hl3 HB2
      have HR3 : Hid (World.ownsRow W3 (w.heap.size + 1) 3 1 (.slice (some ⟨w.heap.size + 1, 0, none⟩) n n) n (ints (gridN n (bfE (nxW m) E0 0)))) := ho3
      have HL3 : Hid (World.ownsRow W3 (w.heap.size + 2) 3 1 (.slice (some ⟨wo.heap.size, 0, none⟩) (bfE (nxW m) E0 0).length 1) (bfE (nxW m) E0 0).length (ints (idsE (bfE (nxW m) E0 0)))) := by
        show W3.ownsRow (w.heap.size + 2) 3 1 (.slice (some ⟨wo.heap.size, 0, none⟩) E0.length 1) E0.length (ints (idsE E0))
        rw [HID0.out, HEL0.out]; exact hl3
      have HW3 := Lib.hid hW3
      have hidI : (s0 : Int) < (n : Int) := by omega
      clear HR1 HR2 HA hl0 ho3 hg3 hl3 hW3 HB
      go_wp2_with (go_at_call 162; refine (l4Id_c x0 l0 s0 HS0.out hx012 (by omega) _).mono ?_; rintro e w2 ⟨rfl, rfl⟩)
      rw [← HW3.out]
      clear c0 f0 HW3
      go_loopw [12, 11] (fun nv tv wr => ∃ i gl cl : Nat, nv = .int .i64 i ∧ tv = .slice (some ⟨gl, 0, none⟩) (bfE (nxW m) E0 i).length cl ∧ i ≤ (bfE (nxW m) E0 i).length ∧ w.heap.size + 2 ≤ wr.heap.size ∧ Hid (World.ownsRow wr (w.heap.size + 1) 3 1 (.slice (some ⟨w.heap.size + 1, 0, none⟩) n n) n (ints (gridN n (bfE (nxW m) E0 i)))) ∧ Hid (World.ownsRow wr (w.heap.size + 2) 3 1 (.slice (some ⟨gl, 0, none⟩) (bfE (nxW m) E0 i).length cl) (bfE (nxW m) E0 i).length (ints (idsE (bfE (nxW m) E0 i)))) ∧ Hid (Below (w.heap.size + 1) (w.alloc (.cells #[.int .i64 m.size, .slice ad m.gates.length cd, .slice ak m.pulls.length ck] 36)) wr)) (fun nv _ _ => 768 - (intOf nv).toNat)
      case atStart => exact ⟨0, wo.heap.size, 1, rfl, by rw [show (bfE (nxW m) E0 0).length = E0.length from rfl, HEL0.out], Nat.zero_le _, by have := own_lt HL3.out; omega, HR3, HL3, HB2⟩
      case round =>
        clear HR3 HL3 HB2
        obtain ⟨wo, rfl⟩ : ∃ wo : World, wo = wr := ⟨_, rfl⟩
        obtain ⟨i, gl, cl, rfl, rfl, hi, hzo, HR, HL, HB⟩ := hrel
        obtain ⟨E, hE⟩ : ∃ E, E = bfE (nxW m) E0 i := ⟨_, rfl⟩
        rw [← hE] at hi HR HL ⊢
        have HOE : Hid (BOk (nxW m) [s0] E i 0) := by rw [hE]; exact HBO.out i
        have hle := HOE.out.le
        have HE := Lib.hid hE
        clear hE
        by_cases hlt : i < E.length
        · have hiI : (i : Int) < (E.length : Int) := by omega
          obtain ⟨x, l, hs, hl, hx⟩ := id_ofS (E[i]!).1
          have hxs : (x : Int) < m.size := by rw [← hx]; exact bf_boundS OK.out HOE.out HLS.out _ (bMem hlt)
          obtain ⟨hx12, hxn⟩ := HSNW.out x hxs
          obtain ⟨si, hsi⟩ : ∃ si, si = x * 64 + l := ⟨_, rfl⟩
          rw [← hsi] at hs
          have hsin : si < n := by rw [hsi]; exact hxn l hl
          obtain ⟨c, hc⟩ : ∃ c, c = (E[i]!).2 := ⟨_, rfl⟩
          have hc768 : c ≤ 768 := by rw [hc]; have := HCO.out i _ (by rw [← HE.out]; exact bMem hlt); omega
          have HC := Lib.hid hc
          have HSE := Lib.hid hs
          have el := own_intW HL.out i hlt (idsE_len E)
          rw [idsE_at hlt, hs] at el
          have hgll := own_block_lo HL.out (g := gl) rfl
          have hglz := own_lt HL.out
          have HNXW : Hid (nxW m (E[i]!).1 = (actsL m (x : Nat) (l : Nat)).map (fun a => wSt m x l a)) := by show _ = _; rw [hs, hsi]; exact nxW_atS hxs hl
          obtain ⟨A, hA⟩ : ∃ A, A = actsL m (x : Nat) (l : Nat) := ⟨_, rfl⟩
          rw [← hA] at HNXW
          have HAA := Lib.hid hA
          have hAl : A.length ≤ 41 := by rw [hA]; exact actsL_leS m x l
          have hq1 : (si : Int) / 64 = (x : Int) := by omega
          have hq2 : (si : Int) % 64 = (l : Int) := by omega
          have hq3 : Int.tdiv (si : Int) 64 = (x : Int) := by rw [Int.tdiv_eq_ediv_of_nonneg (by omega)]; exact hq1
          have hq4 : Int.tmod (si : Int) 64 = (l : Int) := by rw [Int.tmod_eq_emod_of_nonneg (by omega)]; exact hq2
          have hsi768 : (si : Int) < 768 := by omega
          have hwx : IntKind.i64.wrap (x : Int) = (x : Int) := by rw [IntKind.wrap_i64]; omega
          have hwl : IntKind.i64.wrap (l : Int) = (l : Int) := by rw [IntKind.wrap_i64]; omega
          obtain ⟨b0, b1, b2, zb⟩ := box3W HB.out (by omega)
          have HSI := Lib.hid hsi
          clear hs hc hx hA hsi
          go_upto_region 11 with fail
          go_region_held3 (fun W => W.cell? ⟨gl, i, none⟩ = some (.int .i64 (si : Int)))
            (exact el)
            (fail)
          have hd0 : Below wo.heap.size wo wo.drew := (Below.refl _ _).drew
          have HR1 : Hid (World.ownsRow wo.drew (w.heap.size + 1) 3 1 (.slice (some ⟨w.heap.size + 1, 0, none⟩) n n) n (ints (gridN n E))) := own_belowW HR.out hd0
          have HL1 : Hid (World.ownsRow wo.drew (w.heap.size + 2) 3 1 (.slice (some ⟨gl, 0, none⟩) (E).length cl) (E).length (ints (idsE (E)))) := own_belowW HL.out hd0
          have HB1 : Hid (Below (w.heap.size + 1) (w.alloc (.cells #[.int .i64 m.size, .slice ad m.gates.length cd, .slice ak m.pulls.length ck] 36)) wo.drew) := HB.out.drew
          clear HR HL HB el hd0
          go_wp2_with (go_at_call 177; refine (l8ActsB_c _ m x l _ (HMW.out _ HB1.out) OK.out hxs hl).mono ?_; rintro e w2 ⟨u2, rfl, ⟨b8, off8, c8, rfl, hi8, hc8, hcm8, hb8⟩, hb2⟩; rw [← HAA.out] at hi8 hc8 ⊢)
          have HR2 : Hid (World.ownsRow w2 (w.heap.size + 1) 3 1 (.slice (some ⟨w.heap.size + 1, 0, none⟩) n n) n (ints (gridN n E))) := own_belowW HR1.out hb2
          have HL2 : Hid (World.ownsRow w2 (w.heap.size + 2) 3 1 (.slice (some ⟨gl, 0, none⟩) (E).length cl) (E).length (ints (idsE (E)))) := own_belowW HL1.out hb2
          have HB2 : Hid (Below (w.heap.size + 1) (w.alloc (.cells #[.int .i64 m.size, .slice ad m.gates.length cd, .slice ak m.pulls.length ck] 36)) w2) := HB1.out.trans (hb2.mono (by show _ ≤ wo.heap.size; omega))
          have HI2 := Lib.hid hi8
          have hz2 : wo.heap.size ≤ w2.heap.size := hb2.size
          have hb8' : wo.heap.size ≤ b8 := hb8
          have hb8z : 0 < A.length → b8 < w2.heap.size := fun h => by obtain ⟨b, o, he, hbs, -⟩ := hi8 0 h; cases he; exact hbs
          have HB8Z := Lib.hid hb8z
          clear HR1 HL1 HB1 hi8 hb2 hb8 b0 b1 b2 zb hb8z
          go_loopw [16, 11] (fun jv tv wr => ∃ j gl cl : Nat, jv = .int .i64 j ∧ j ≤ A.length ∧ tv = .slice (some ⟨gl, 0, none⟩) (bExpJ (nxW m) E i j).length cl ∧ (gl < wo.heap.size ∨ w2.heap.size ≤ gl) ∧ w2.heap.size ≤ wr.heap.size ∧ Hid (World.ownsRow wr (w.heap.size + 1) 3 1 (.slice (some ⟨w.heap.size + 1, 0, none⟩) n n) n (ints (gridN n (bExpJ (nxW m) E i j)))) ∧ Hid (World.ownsRow wr (w.heap.size + 2) 3 1 (.slice (some ⟨gl, 0, none⟩) (bExpJ (nxW m) E i j).length cl) (bExpJ (nxW m) E i j).length (ints (idsE (bExpJ (nxW m) E i j)))) ∧ Hid (Below (w.heap.size + 1) (w.alloc (.cells #[.int .i64 m.size, .slice ad m.gates.length cd, .slice ak m.pulls.length ck] 36)) wr) ∧ Hid (IC wr (some ⟨b8, off8, none⟩) A)) (fun jv _ _ => A.length - (intOf jv).toNat)
          case atStart => exact ⟨0, gl, cl, rfl, Nat.zero_le _, by simp [bExpJ], .inl hglz, Nat.le_refl _, by simpa [bExpJ] using HR2, by simpa [bExpJ] using HL2, HB2, HI2⟩
          case round =>
            clear HR2 HL2 HB2 HI2 hglz hgll
            obtain ⟨wi, rfl⟩ : ∃ wi : World, wi = wr := ⟨_, rfl⟩
            obtain ⟨j, gl, cl, rfl, hj, rfl, hgw, hzi, HR, HL, HB, HI⟩ := hrel
            have hlen : (nxW m (E[i]!).1).length = A.length := by rw [HNXW.out, List.length_map]
            have HOF : Hid (BOk (nxW m) [s0] (bExpJ (nxW m) E i j) i j) := HOE.out.exp (nxW_lt OK.out) hlt j (by omega)
            have hpre := bExpJ_pre (nxW m) E i j
            obtain ⟨F, hF⟩ : ∃ F, F = bExpJ (nxW m) E i j := ⟨_, rfl⟩
            rw [← hF] at hpre HOF HR HL ⊢
            have hFi : F[i]! = E[i]! := bPre_at hpre hlt
            have hFl : i < F.length := Nat.lt_of_lt_of_le hlt hpre.length_le
            have hF768 := HOF.out.le
            have hgll := own_block_lo HL.out (g := gl) rfl
            have hglz := own_lt HL.out
            have HFF := Lib.hid hF
            have HFI := Lib.hid hFi
            have HLEN := Lib.hid hlen
            clear hF hpre hFi hlen
            by_cases hlt2 : j < A.length
            · have hjI : (j : Int) < (A.length : Int) := by omega
              have hb8w := HB8Z.out (by omega)
              obtain ⟨b9, off9, av, ha9, HX, hbs9, e9⟩ := HI.out.at j hlt2
              cases ha9
              have hmem : av ∈ actsL m (x : Nat) (l : Nat) := by rw [← HAA.out, ← HX.out, getElem!_pos A j hlt2]; exact List.getElem_mem hlt2
              obtain ⟨y, k, hd, hy, hk, hst⟩ := do_nat OK.out hxs hl hmem
              obtain ⟨hy12, hyn⟩ := HSNW.out y hy
              obtain ⟨sj, hsj⟩ : ∃ sj, sj = y * 64 + k := ⟨_, rfl⟩
              have hsjn : sj < n := by rw [hsj]; exact hyn k hk
              have hat : (nxW m (E[i]!).1)[j]! = sj := by rw [HNXW.out, getElem!_pos _ j (by simpa using hlt2), List.getElem_map, hsj, ← hst, ← HX.out, getElem!_pos A j hlt2]
              have HSTEP : Hid (bExpJ (nxW m) E i (j + 1) = bAdd (c + 1) F sj) := by
                show _ = _
                rw [bExpJ_step (nxW m) E i (by rw [HLEN.out]; exact hlt2), ← HFF.out, hat, ← HC.out]
              have HD := Lib.hid hd
              have HSJ := Lib.hid hsj
              have el := own_intW HL.out i hFl (idsE_len F)
              rw [idsE_at hFl, HFI.out, HSE.out] at el
              have hFin : (si, c) ∈ F := by have := bMem hFl; rw [HFI.out] at this; rw [HC.out, ← HSE.out]; exact this
              have exl := own_intW HR.out si hsin (gridN_len _ _)
              rw [gridN_at n F hsin, bD_some HOF.out.nd hFin rfl] at exl
              have ec := own_intW HR.out sj hsjn (gridN_len _ _)
              rw [gridN_at n F hsjn] at ec
              have fc := (own_cell HR.out sj (by omega)).2
              have HFIN := Lib.hid hFin
              have hzw1 := own_lt HR.out
              have HCEL : Hid (∀ W, Below wi.heap.size wi W → W.cell? ⟨gl, i, none⟩ = some (.int .i64 (si : Int)) ∧ W.cell? ⟨w.heap.size + 1, si, none⟩ = some (.int .i64 (c : Int)) ∧ W.cell? ⟨w.heap.size + 1, sj, none⟩ = some (.int .i64 (bD F sj)) ∧ W.frozen? ⟨w.heap.size + 1, sj, none⟩ = false) := fun W hW => ⟨(hW.cell (p := ⟨gl, i, none⟩) hglz).trans el, (hW.cell (p := ⟨w.heap.size + 1, si, none⟩) hzw1).trans exl, (hW.cell (p := ⟨w.heap.size + 1, sj, none⟩) hzw1).trans ec, (hW.frozen (p := ⟨w.heap.size + 1, sj, none⟩) hzw1).trans fc⟩
              obtain ⟨b0, b1, b2, zb⟩ := box3W HB.out (by omega)
              have HS2 : Hid (∀ W, Below wi.heap.size wi W → W.cell? ⟨w.heap.size, 0, none⟩ = some (.int .i64 m.size) ∧ W.cell? ⟨w.heap.size, 1, none⟩ = some (.slice ad m.gates.length cd) ∧ W.cell? ⟨w.heap.size, 2, none⟩ = some (.slice ak m.pulls.length ck) ∧ W.cell? ⟨b8, off8 + j, none⟩ = some (.int .i64 av)) := fun W hW => ⟨(hW.cell (p := ⟨w.heap.size, 0, none⟩) zb).trans b0, (hW.cell (p := ⟨w.heap.size, 1, none⟩) zb).trans b1, (hW.cell (p := ⟨w.heap.size, 2, none⟩) zb).trans b2, (hW.cell (p := ⟨b8, off8 + j, none⟩) hbs9).trans e9⟩
              have hcw : IntKind.i64.wrap ((c : Int) + 1) = (c : Int) + 1 := by rw [IntKind.wrap_i64]; omega
              have hiF : (i : Int) < (F.length : Int) := by omega
              have hsiI : (si : Int) < (n : Int) := by omega
              have hsjI : (sj : Int) < (n : Int) := by omega
              have hAl2 : A.length ≤ c8 := hc8
              clear hmem hst hat hd hFin hsj el exl ec fc
              go_upto_region 16 with fail
              go_region_held3 (fun W => W.cell? ⟨w.heap.size, 0, none⟩ = some (.int .i64 m.size) ∧ W.cell? ⟨w.heap.size, 1, none⟩ = some (.slice ad m.gates.length cd) ∧ W.cell? ⟨w.heap.size, 2, none⟩ = some (.slice ak m.pulls.length ck) ∧ W.cell? ⟨b8, off8 + j, none⟩ = some (.int .i64 av))
                (first | exact HS2.out _ (by repeat (first | exact Below.refl _ _ | exact HB3.out | apply Below.drew | apply below_drewN | (refine Below.setCell ?_ (by first | omega | (simp; done) | (simp; omega) | (dsimp only; omega)) _) | (refine Below.alloc ?_ (by first | omega | (simp; done) | (simp; omega) | (dsimp only; omega)) _))))
                ((go_at_call 178; refine (l8Do_c _ m x l av _ (HMW.out _ (HB.out.trans (Below.mono (B := wi.heap.size) (by repeat (first | exact Below.refl _ _ | apply Below.drew | apply below_drewN | (refine Below.setCell ?_ (by first | omega | (simp; done) | (simp; omega) | (dsimp only; omega)) _) | (refine Below.alloc ?_ (by first | omega | (simp; done) | (simp; omega) | (dsimp only; omega)) _))) (by omega)))) OK.out hxs hl).mono ?_; rintro e w3 ⟨rfl, hb3⟩; rw [HD.out]; have HB3 : Hid (Below wi.heap.size wi w3) := Below.trans (by repeat (first | exact Below.refl _ _ | apply Below.drew | apply below_drewN | (refine Below.setCell ?_ (by first | omega | (simp; done) | (simp; omega) | (dsimp only; omega)) _) | (refine Below.alloc ?_ (by first | omega | (simp; done) | (simp; omega) | (dsimp only; omega)) _))) (hb3.mono (by first | exact Nat.le_refl _ | (simp; done) | (simp; omega))); clear hb3))
              all_goals
                obtain ⟨el, exl, ec, fc⟩ := HCEL.out w3 HB3.out
                have hz3 := HB3.out.size
                have HR3 : Hid (World.ownsRow w3 (w.heap.size + 1) 3 1 (.slice (some ⟨w.heap.size + 1, 0, none⟩) n n) n (ints (gridN n F))) := own_belowW HR.out HB3.out
                have HL3 : Hid (World.ownsRow w3 (w.heap.size + 2) 3 1 (.slice (some ⟨gl, 0, none⟩) (F).length cl) (F).length (ints (idsE (F)))) := own_belowW HL.out HB3.out
                have HBL3 : Hid (Below (w.heap.size + 1) (w.alloc (.cells #[.int .i64 m.size, .slice ad m.gates.length cd, .slice ak m.pulls.length ck] 36)) w3) := HB.out.trans (HB3.out.mono (by omega))
                have HI3 : Hid (IC w3 (some ⟨b8, off8, none⟩) A) := HI.out.later HB3.out
                clear HR HL HB HI HCEL HS2 e9 b0 b1 b2 HB3
                cases hany : F.any (fun e => e.1 == sj)
                case true =>
                  obtain ⟨e', he', hee⟩ := List.any_eq_true.1 hany
                  have hee : e'.1 = sj := by simpa using hee
                  have hbe := bD_some HOF.out.nd he' hee
                  obtain ⟨ai, hai, hae⟩ := bIdx he'
                  have hcle : e'.2 ≤ c + 1 := by have := HOF.out.hi hFl ai hai; rw [hae, HFI.out, ← HC.out] at this; exact this
                  obtain ⟨c', hc'⟩ : ∃ c', c' = e'.2 := ⟨_, rfl⟩
                  rw [hbe, ← hc'] at ec
                  rw [← hc'] at hcle
                  have hd1 : decide ((c' : Int) < 0) = false := by simp
                  have hd2 : decide ((c : Int) + 1 < (c' : Int)) = false := by simp; omega
                  have HJN : Hid (bExpJ (nxW m) E i (j + 1) = F) := by show _ = _; rw [HSTEP.out]; exact bAdd_yes hany
                  clear hany he' hee hbe hai hae hc'
                  go_wp2_with (go_at_call 162; refine (l4Id_c y k sj HSJ.out (by omega) (by omega) _).mono ?_; rintro e w4 ⟨rfl, rfl⟩)
                  go_roundw
                  case rel => exact ⟨j + 1, gl, cl, by go_num, by omega, by rw [HJN.out], hgw, by omega, by rw [HJN.out]; exact HR3, by rw [HJN.out]; exact HL3, HBL3, HI3⟩
                  case measure => simp [intOf]; omega
                case false =>
                  have HJN : Hid (bExpJ (nxW m) E i (j + 1) = F ++ [(sj, c + 1)]) := by show _ = _; rw [HSTEP.out]; exact bAdd_no hany
                  rw [bD_none hany] at ec
                  obtain ⟨ho4, hg4⟩ := own_store1 HR3.out sj ((c + 1 : Nat) : Int)
                  rw [gridN_snoc hany hsjn] at ho4
                  have hl4 := own_grownW HL3.out hg4 (by omega)
                  have hi4 := ic_grownW HI3.out hg4 (by omega)
                  have hb4 : Hid (Below (w.heap.size + 1) (w.alloc (.cells #[.int .i64 m.size, .slice ad m.gates.length cd, .slice ak m.pulls.length ck] 36)) (w3.setCell ⟨w.heap.size + 1, sj, none⟩ (.int .i64 ((c + 1 : Nat) : Int)))) := Below.setCell HBL3.out (Nat.le_refl _) _
                  obtain ⟨w4, hw4⟩ : ∃ w4, w4 = (w3.setCell ⟨w.heap.size + 1, sj, none⟩ (.int .i64 ((c + 1 : Nat) : Int))) := ⟨_, rfl⟩
                  have hz4 : w3.heap.size ≤ w4.heap.size := by rw [hw4]; simp
                  have hz4' : w4.heap.size ≤ w3.heap.size := by rw [hw4]; simp
                  have hcc : ((c + 1 : Nat) : Int) = (c : Int) + 1 := by omega
                  rw [← hw4] at ho4 hl4 hi4 hb4
                  rw [hcc] at hw4
                  have HR4 : Hid (World.ownsRow w4 (w.heap.size + 1) 3 1 (.slice (some ⟨w.heap.size + 1, 0, none⟩) n n) n (ints (gridN n (F ++ [(sj, c + 1)])))) := ho4
                  have HL4 : Hid (World.ownsRow w4 (w.heap.size + 2) 3 1 (.slice (some ⟨gl, 0, none⟩) (F).length cl) (F).length (ints (idsE (F)))) := hl4
                  have HI4 := Lib.hid hi4
                  have HW4 := Lib.hid hw4
                  have HIS : Hid (ints (idsE (F ++ [(sj, c + 1)])) = ints (idsE F) ++ [.int .i64 (sj : Int)]) := by show _ = _; rw [idsE_snoc, ints_snoc]
                  clear hany ho4 hg4 hl4 hi4 hw4 hcc HR3 HL3 HI3 HBL3
                  go_upto_region 22 with (go_at_call 162; refine (l4Id_c y k sj HSJ.out (by omega) (by omega) _).mono ?_; rintro e w4 ⟨rfl, rfl⟩)
                  go_upto_region 23 with fail
                  rw [← HW4.out]
                  clear ec fc el exl HW4
                  have HLA : Hid (World.ownsRow (w4.alloc (.cells #[.int .i64 (sj : Int)] 3)) (w.heap.size + 2) 3 1 (.slice (some ⟨gl, 0, none⟩) F.length cl) F.length (ints (idsE F))) := own_belowW HL4.out ((Below.refl _ _).alloc (Nat.le_refl _) _)
                  go_wp2_with (at_builtin; refine wpList_append_lies _ rfl _ _ 24 rfl (w.heap.size + 2) 3 i0 (.int .i64 0) 1 8 Try.underlying24 ji jz0 jz1 jz2 rfl (by decide) (.slice (some ⟨gl, 0, none⟩) F.length cl) _ _ rfl HLA.out ⟨w4.heap.size, 0, none⟩ 1 1 [.int .i64 (sj : Int)] rfl rfl ?_ ?_ (by omega) ?_ ?_ ?_ (w4.heap.size + 1) ?_ ?_; (exact cell_one_new _ _ _); (simp [Value.oneCell']); (unfold maxLen; omega); omega; (simp; omega); (simp); intro g5 c5 w5 hown5 hgrow5 hat5 hlt5)
                  have hA : Below w4.heap.size w4 (w4.alloc (.cells #[.int .i64 (sj : Int)] 3)) := (Below.refl _ _).alloc (Nat.le_refl _) _
                  have hg5 : g5 = gl ∨ g5 = w4.heap.size + 1 := by rcases hat5 with h | h <;> first | exact .inr h | (left; symm; simpa [Value.ownBlock] using h)
                  have hgr5 : World.grownBy (w4.alloc (.cells #[.int .i64 (sj : Int)] 3)) w5 (some gl) := hgrow5
                  have HR5 : Hid (World.ownsRow w5 (w.heap.size + 1) 3 1 (.slice (some ⟨w.heap.size + 1, 0, none⟩) n n) n (ints (gridN n (F ++ [(sj, c + 1)])))) := own_grownW (own_belowW HR4.out hA) hgr5 (by omega)
                  have HL5 : Hid (World.ownsRow w5 (w.heap.size + 2) 3 1 (.slice (some ⟨g5, 0, none⟩) (F.length + 1) c5) (F.length + 1) (ints (idsE (F ++ [(sj, c + 1)])))) := by rw [HIS.out]; exact hown5
                  have HI5 : Hid (IC w5 (some ⟨b8, off8, none⟩) A) := ic_grownW (HI4.out.later hA) hgr5 (by omega)
                  have HB5 : Hid (Below (w.heap.size + 1) (w.alloc (.cells #[.int .i64 m.size, .slice ad m.gates.length cd, .slice ak m.pulls.length ck] 36)) w5) := Below.grown (hb4.out.trans (hA.mono (by omega))) hgr5 (by have := hb4.out.size; simp at this; simp; omega) (fun b hb => by cases hb; omega)
                  have hz5 : w4.heap.size + 1 ≤ w5.heap.size := by have := hgr5.size; simpa using this
                  clear hown5 hgrow5 hat5 hgr5 HR4 HL4 HI4 HLA
                  go_wp2
                  go_roundw
                  case rel => exact ⟨j + 1, g5, c5, by go_num, by omega, by rw [HJN.out]; simp, by omega, by omega, by rw [HJN.out]; exact HR5, by rw [HJN.out]; simpa using HL5, HB5, HI5⟩
                  case measure => simp [intOf]; omega
            · obtain rfl : j = A.length := by omega
              have HNEXT : Hid (bfE (nxW m) E0 (i + 1) = F) := by
                show _ = _
                rw [bfE_next (by rw [← HE.out]; exact hlt), ← HE.out, HFF.out, ← HLEN.out]; rfl
              have HI1 : Hid (i + 1 ≤ F.length) := hFl
              go_wp2
              go_roundw
              case rel => exact ⟨i + 1, gl, cl, by go_num, by rw [HNEXT.out], by rw [HNEXT.out]; exact HI1.out, by omega, by rw [HNEXT.out]; exact HR, by rw [HNEXT.out]; exact HL, HB⟩
              case measure => simp [intOf]; omega
        · obtain rfl : i = E.length := by omega
          have HFIN : Hid (FF = E) := by
            show _ = _
            rw [HFFF.out, bfF_eq (i := E.length) (by omega) (by rw [← HE.out]; exact Nat.le_refl _), ← HE.out]
          have HIF : Hid (IC wo (some ⟨w.heap.size + 1, 0, none⟩) (gridN n FF)) := by
            rw [HFIN.out]
            exact ic_of' (Own.of HR.out) (gridN_len _ _).symm
          have HBF : Hid (Below w.heap.size w wo) := below_boxW HB.out (by omega)
          go_wp2
          go_ret
          exact ⟨_, _, rfl, HIF.out, HBF.out⟩
end Go.Proofs.Ytmilpahggceemaa
