/- DoAct. -/
import Derived.Test.YtldogbahbjompaaKdActsAt
import Derived.Deep.QuietTactic
import Derived.BigQuiet
import Derived.OwnWalk
set_option linter.unusedVariables false
set_option linter.unusedSimpArgs false
namespace Go.KD
def doP (m : Wk) (x l a : Int) : Int × Int := if a < 0 then (x, xorV l m.pulls[x.toNat]!) else (a, l)
noncomputable def pDoAct (m : Wk) (x l a : Int) : Int × Int × Bool := if visitB m x l && hasI (actsL m x l) a then ((doP m x l a).1, (doP m x l a).2, true) else (0, 0, false)
end Go.KD
namespace Go.Proofs.Ytldogbahbjompaa
open Go.RowKit Go.KD
attribute [local go_sem] later_cell later_frozen
set_option maxHeartbeats 1000000 in
theorem behind_c (v : Value) (m : Wk) (x l : Nat) (a : Int) (w : World) (hm : WkAt w v m) (ok : WkOk m) (hx : (x : Int) < m.size) (hl : l < 64) :
    Calls Try.prog 55 #[v, .int .i64 x, .int .i64 l, .int .i64 a] w fun e w' => e = .returned (.tuple #[.int .i64 (doP m x l a).1, .int .i64 (doP m x l a).2]) ∧ Below w.heap.size w w' := by
  have hM := hm
  obtain ⟨⟨ad, cd, ak, ck, rfl, hd, hk'⟩, nd, nk⟩ := hM
  have hnp : x < m.pulls.length := by have := ok.np; omega
  have hpl := ok.pl x hnp
  obtain ⟨s, gs, ps⟩ := m
  dsimp only at *
  have OK := Lib.hid ok; clear ok
  have hs2 : s ≤ 12 := OK.out.s2
  have hx12 : x < 12 := by omega
  obtain ⟨bp, offp, pv, rfl, HX, hbs, ep⟩ := hk'.at x hnp
  rw [HX.out] at hpl
  obtain ⟨hp0, hp1⟩ := setB_true.1 hpl
  clear hpl
  have ex : bits .xor .i64 (l : Int) pv = xorV l pv := xorV_bits (by omega) (by omega)
  have hxn : (x : Int) < (ps.length : Int) := by omega
  have hbs1 : bp < w.heap.size + 1 := by omega
  cases p0 : decide (a < 0)
  · have HD : Hid (doP ⟨s, gs, ps⟩ x l a = (a, (l : Int))) := by show _ = _; simp only [decide_eq_false_iff_not] at p0; simp [doP, p0]
    go_enter Try.func55, Try.ntmps55
    go_wp2
    go_ret2
    exact ⟨ret_tup2 (by rw [HD.out] <;> rfl), by (repeat (first | exact Below.refl _ _ | apply Below.drew | apply below_drewN | (refine Below.setCell ?_ (by first | omega | (simp; done) | (simp; omega) | (dsimp only; omega)) _) | (refine Below.alloc ?_ (by first | omega | (simp; done) | (simp; omega) | (dsimp only; omega)) _)))⟩
  · have HD : Hid (doP ⟨s, gs, ps⟩ x l a = ((x : Int), xorV l pv)) := by show _ = _; simp only [decide_eq_true_eq] at p0; simp [doP, p0, HX.out]
    go_enter Try.func55, Try.ntmps55
    go_wp2
    go_quiet (fail)
    go_wp2
    go_ret2
    exact ⟨ret_tup2 (by rw [HD.out] <;> rfl), by (repeat (first | exact Below.refl _ _ | apply Below.drew | apply below_drewN | (refine Below.setCell ?_ (by first | omega | (simp; done) | (simp; omega) | (dsimp only; omega)) _) | (refine Below.alloc ?_ (by first | omega | (simp; done) | (simp; omega) | (dsimp only; omega)) _)))⟩
set_option maxHeartbeats 1000000 in
theorem l8Do_c (v : Value) (m : Wk) (x l : Nat) (a : Int) (w : World) (hm : WkAt w v m) (ok : WkOk m) (hx : (x : Int) < m.size) (hl : l < 64) :
    Calls Try.prog 102 #[v, .int .i64 x, .int .i64 l, .int .i64 a] w fun e w' => e = .returned (.tuple #[.int .i64 (doP m x l a).1, .int .i64 (doP m x l a).2]) ∧ Below w.heap.size w w' := by
  have hM := hm
  obtain ⟨⟨ad, cd, ak, ck, rfl, hd, hk'⟩, nd, nk⟩ := hM
  have hnp : x < m.pulls.length := by have := ok.np; omega
  have hpl := ok.pl x hnp
  obtain ⟨s, gs, ps⟩ := m
  dsimp only at *
  have OK := Lib.hid ok; clear ok
  have hs2 : s ≤ 12 := OK.out.s2
  have hx12 : x < 12 := by omega
  obtain ⟨bp, offp, pv, rfl, HX, hbs, ep⟩ := hk'.at x hnp
  rw [HX.out] at hpl
  obtain ⟨hp0, hp1⟩ := setB_true.1 hpl
  clear hpl
  have ex : bits .xor .i64 (l : Int) pv = xorV l pv := xorV_bits (by omega) (by omega)
  have hxn : (x : Int) < (ps.length : Int) := by omega
  have hbs1 : bp < w.heap.size + 1 := by omega
  cases p0 : decide (a < 0)
  · have HD : Hid (doP ⟨s, gs, ps⟩ x l a = (a, (l : Int))) := by show _ = _; simp only [decide_eq_false_iff_not] at p0; simp [doP, p0]
    go_enter Try.func102, Try.ntmps102
    go_wp2
    go_ret2
    exact ⟨ret_tup2 (by rw [HD.out] <;> rfl), by (repeat (first | exact Below.refl _ _ | apply Below.drew | apply below_drewN | (refine Below.setCell ?_ (by first | omega | (simp; done) | (simp; omega) | (dsimp only; omega)) _) | (refine Below.alloc ?_ (by first | omega | (simp; done) | (simp; omega) | (dsimp only; omega)) _)))⟩
  · have HD : Hid (doP ⟨s, gs, ps⟩ x l a = ((x : Int), xorV l pv)) := by show _ = _; simp only [decide_eq_true_eq] at p0; simp [doP, p0, HX.out]
    go_enter Try.func102, Try.ntmps102
    go_wp2
    go_quiet (fail)
    go_wp2
    go_ret2
    exact ⟨ret_tup2 (by rw [HD.out] <;> rfl), by (repeat (first | exact Below.refl _ _ | apply Below.drew | apply below_drewN | (refine Below.setCell ?_ (by first | omega | (simp; done) | (simp; omega) | (dsimp only; omega)) _) | (refine Below.alloc ?_ (by first | omega | (simp; done) | (simp; omega) | (dsimp only; omega)) _)))⟩
