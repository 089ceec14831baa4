/- AreApart: can one not come from a visit to another one. The least numbers of acts to the goal: plain words. Plans, turned levers, visits that are apart: what the law of plans wants. Plain words. Plans: spec.l8Run. IsPlan. RunPlan. Results that are mazes or works: the marks that the laws leave in them, and how the laws read them again. impl.TurnLevers. -/
import Derived.Test.YtmilpahggceemaaKpFp8
import Derived.Test.YtmilpahggceemaaKpFp7
import Derived.Test.YtmilpahggceemaaKpFp2
import Derived.Test.YtmilpahggceemaaKpFp6
import Derived.Deep.RegionHeld3
import Derived.Test.YtmilpahggceemaaKpFp0
import Derived.Test.YtmilpahggceemaaKpFp4
import Derived.Test.YtmilpahggceemaaKpFp1
import Derived.Deep.DeepCutAuto
set_option linter.unusedVariables false
set_option linter.unusedSimpArgs false
namespace Go.KD
open Go.RowKit
noncomputable def pAreApart (m : Wk) (x a y b : Int) : Bool × Bool := if visitB m x a && visitB m y b then (decide (bD (bfF (nxW m) [((x.toNat * 64 + a.toNat, 0) : Bn)]) (y.toNat * 64 + b.toNat) < 0), true) else (false, false)
theorem visit_ok {m : Wk} {x a : Int} (h : visitB m x a = true) : WkOk m ∧ ∃ xn an : Nat, x = xn ∧ a = an ∧ (xn : Int) < m.size ∧ an < 64 := by
  unfold visitB at h
  rw [Bool.and_eq_true, Bool.and_eq_true, worksB_true, inB_true, setB_true] at h
  obtain ⟨⟨h1, h2⟩, h3⟩ := h
  exact ⟨h1, x.toNat, a.toNat, by omega, by omega, by omega, by omega⟩
end Go.KD
namespace Go.Proofs.Ytmilpahggceemaa
open Go.RowKit Go.KD
attribute [local go_sem] later_cell later_frozen
set_option maxRecDepth 100000 in
set_option maxHeartbeats 8000000 in
theorem implAreApart_c (v : Value) (m : Wk) (x a y b : Int) (w : World) (hm : WkAt w v m) (wx : wfI x) (wa : wfI a) (wy : wfI y) (wb : wfI b) :
    Calls Try.prog 36 #[v, .int .i64 x, .int .i64 a, .int .i64 y, .int .i64 b] w fun e w' => e = .returned (.tuple #[.bool (pAreApart m x a y b).1, .bool (pAreApart m x a y b).2]) ∧ Below w.heap.size w w' := by
  have hM := hm
  obtain ⟨⟨ad, cd, ak, ck, rfl, hd, hk'⟩, nd, nk⟩ := hM
  cases b1 : visitB m x a
  case false =>
    have hp : pAreApart m x a y b = (false, false) := by simp [pAreApart, b1]
    rw [hp]
    clear hp
    go_enter Try.func36, Try.ntmps36
    go_wp2_with (go_at_call 158; refine (isVisitOf_c _ m _ _ _ (hm.later (by (repeat (first | exact Below.refl _ _ | apply Below.drew | apply below_drewN | (refine Below.setCell ?_ (by first | omega | (simp; done) | (simp; omega) | (dsimp only; omega)) _) | (refine Below.alloc ?_ (by first | omega | (simp; done) | (simp; omega) | (dsimp only; omega)) _)))))).mono ?_; rintro e w1 ⟨rfl, hb1⟩; have HB1 : Hid (Below w.heap.size w w1) := below_then (by (repeat (first | exact Below.refl _ _ | apply Below.drew | apply below_drewN | (refine Below.setCell ?_ (by first | omega | (simp; done) | (simp; omega) | (dsimp only; omega)) _) | (refine Below.alloc ?_ (by first | omega | (simp; done) | (simp; omega) | (dsimp only; omega)) _)))) hb1; have HX1 : Hid (Below (w.heap.size + 1) (w.alloc (.cells #[.int .i64 m.size, .slice ad m.gates.length cd, .slice ak m.pulls.length ck] 36)) w1) := hb1.mono (by simp); rw [b1])
    go_ret2
    exact ⟨rfl, HB1.out⟩
  cases b2 : visitB m y b
  case false =>
    have hp : pAreApart m x a y b = (false, false) := by simp [pAreApart, b2]
    rw [hp]
    clear hp
    have HB2' := Lib.hid b2
    clear b2
    obtain ⟨q0, q1, q2, z1⟩ := box3W (Below.refl (w.heap.size + 1) (w.alloc (.cells #[.int .i64 m.size, .slice ad m.gates.length cd, .slice ak m.pulls.length ck] 36))) (by omega)
    go_enter Try.func36, Try.ntmps36
    go_wp2_with (first
      | (go_at_call 158; refine (isVisitOf_c _ m _ _ _ (hm.later (by (repeat (first | exact Below.refl _ _ | apply Below.drew | apply below_drewN | (refine Below.setCell ?_ (by first | omega | (simp; done) | (simp; omega) | (dsimp only; omega)) _) | (refine Below.alloc ?_ (by first | omega | (simp; done) | (simp; omega) | (dsimp only; omega)) _)))))).mono ?_; rintro e w1 ⟨rfl, hb1⟩; have HB1 : Hid (Below w.heap.size w w1) := below_then (by (repeat (first | exact Below.refl _ _ | apply Below.drew | apply below_drewN | (refine Below.setCell ?_ (by first | omega | (simp; done) | (simp; omega) | (dsimp only; omega)) _) | (refine Below.alloc ?_ (by first | omega | (simp; done) | (simp; omega) | (dsimp only; omega)) _)))) hb1; have HX1 : Hid (Below (w.heap.size + 1) (w.alloc (.cells #[.int .i64 m.size, .slice ad m.gates.length cd, .slice ak m.pulls.length ck] 36)) w1) := hb1.mono (by simp); rw [b1]; clear q0 q1 q2; obtain ⟨q0, q1, q2, z1⟩ := box3W HX1.out (by omega))
      | (go_at_call 158; refine (isVisitOf_c _ m _ _ _ (hm.later HB1.out)).mono ?_; rintro e w2 ⟨rfl, hb2⟩; have HB2 : Hid (Below w.heap.size w w2) := below_then HB1.out hb2; have HX2 : Hid (Below (w.heap.size + 1) (w.alloc (.cells #[.int .i64 m.size, .slice ad m.gates.length cd, .slice ak m.pulls.length ck] 36)) w2) := HX1.out.trans (hb2.mono (by omega)); rw [HB2'.out]))
    go_ret2
    exact ⟨rfl, HB2.out⟩
  obtain ⟨OK, xn, an, rfl, rfl, hx, ha⟩ := visit_ok b1
  obtain ⟨-, yn, bn, rfl, rfl, hy, hb⟩ := visit_ok b2
  have hs2 := OK.s2
  have hy12 : yn < 12 := by omega
  have hp : pAreApart m (xn : Int) (an : Int) (yn : Int) (bn : Int) = (decide (bD (bfF (nxW m) [((xn * 64 + an, 0) : Bn)]) (yn * 64 + bn) < 0), true) := by simp [pAreApart, b1, b2]
  rw [hp]
  obtain ⟨E, hE⟩ : ∃ E, E = bfF (nxW m) [((xn * 64 + an, 0) : Bn)] := ⟨_, rfl⟩
  rw [← hE]
  have HE := Lib.hid hE
  have HB2' := Lib.hid b2
  clear hp hE b2
  obtain ⟨si, hsi⟩ : ∃ si, si = yn * 64 + bn := ⟨_, rfl⟩
  rw [← hsi]
  have HSI := Lib.hid hsi
  obtain ⟨rv, hrv⟩ : ∃ rv, rv = bD E si := ⟨_, rfl⟩
  rw [← hrv]
  obtain ⟨q0, q1, q2, z1⟩ := box3W (Below.refl (w.heap.size + 1) (w.alloc (.cells #[.int .i64 m.size, .slice ad m.gates.length cd, .slice ak m.pulls.length ck] 36))) (by omega)
  go_enter Try.func36, Try.ntmps36
  go_upto_region 3 with (first
    | (go_at_call 158; refine (isVisitOf_c _ m _ _ _ (hm.later (by (repeat (first | exact Below.refl _ _ | apply Below.drew | apply below_drewN | (refine Below.setCell ?_ (by first | omega | (simp; done) | (simp; omega) | (dsimp only; omega)) _) | (refine Below.alloc ?_ (by first | omega | (simp; done) | (simp; omega) | (dsimp only; omega)) _)))))).mono ?_; rintro e w1 ⟨rfl, hb1⟩; have HB1 : Hid (Below w.heap.size w w1) := below_then (by (repeat (first | exact Below.refl _ _ | apply Below.drew | apply below_drewN | (refine Below.setCell ?_ (by first | omega | (simp; done) | (simp; omega) | (dsimp only; omega)) _) | (refine Below.alloc ?_ (by first | omega | (simp; done) | (simp; omega) | (dsimp only; omega)) _)))) hb1; have HX1 : Hid (Below (w.heap.size + 1) (w.alloc (.cells #[.int .i64 m.size, .slice ad m.gates.length cd, .slice ak m.pulls.length ck] 36)) w1) := hb1.mono (by simp); rw [b1]; clear q0 q1 q2; obtain ⟨q0, q1, q2, z1⟩ := box3W HX1.out (by omega))
    | (go_at_call 158; refine (isVisitOf_c _ m _ _ _ (hm.later HB1.out)).mono ?_; rintro e w2 ⟨rfl, hb2⟩; have HB2 : Hid (Below w.heap.size w w2) := below_then HB1.out hb2; have HX2 : Hid (Below (w.heap.size + 1) (w.alloc (.cells #[.int .i64 m.size, .slice ad m.gates.length cd, .slice ak m.pulls.length ck] 36)) w2) := HX1.out.trans (hb2.mono (by omega)); rw [HB2'.out]; clear q0 q1 q2; obtain ⟨q0, q1, q2, z2⟩ := box3W HX2.out (by omega)))
  obtain ⟨G, hG⟩ : ∃ G, G = gridL E := ⟨_, rfl⟩
  have hGl : G.length = 768 := by rw [hG]; exact gridL_len E
  have hGs : G[si]! = rv := by rw [hG, hrv]; exact gridL_at E (by omega)
  have hHG : Hid (gridL (bfF (nxW m) ([xn * 64 + an].map fun s => ((s, 0) : Bn))) = G) := by show _ = _; rw [hG, HE.out]; rfl
  have hyI : (yn : Int) < 12 := by omega
  have hbI : (bn : Int) < 64 := by omega
  have HGS := Lib.hid hGs
  have HGL := Lib.hid hGl
  have HQ : Hid (Q2 (w2.alloc (.cells #[.int .i64 (xn : Int), .int .i64 (an : Int)] 117)) w2.heap.size 0 1 ([xn * 64 + an].map prN)) := by
    have hpr : prN (xn * 64 + an) = ((xn : Int), (an : Int)) := prN_id xn an ha
    refine ⟨by simp, Nat.le_refl _, by unfold maxLen; omega, fun j hj => ?_, fun j hj => ?_, fun j hj => ?_⟩
    · obtain rfl : j = 0 := by simpa using hj
      simp [go_sem, hpr]
    · obtain rfl : j = 0 := by simpa using hj
      simp [go_sem, hpr]
    · have hj2 : j = 0 ∨ j = 1 := by omega
      rcases hj2 with rfl | rfl <;> simp [go_sem]
  have HM2 : Hid (WkAt w2 (.agg #[.int .i64 m.size, .slice ad m.gates.length cd, .slice ak m.pulls.length ck]) m) := hm.later HB2.out
  obtain ⟨Rw, hRw⟩ : ∃ Rw, Rw = (ints G).toArray.extract (yn * 64) (yn * 64 + 64) := ⟨_, rfl⟩
  have hix1 : ∀ W : World, (Instr.index 115 (.agg (ints G).toArray) (.int .i64 (yn : Int))).run Try.prog W = .ok (.agg Rw) W := fun W => by rw [hRw]; exact run_index_row W _ _ _ 12 64 yn _ Try.underlying115 Try.underlying113 (by kernel_rfl) hy12
  have hix2 : ∀ W : World, (Instr.index 113 (.agg Rw) (.int .i64 (bn : Int))).run Try.prog W = .ok (.int .i64 rv) W := fun W => run_index_int W _ _ 64 bn _ _ Try.underlying113 Try.underlying3 (by kernel_rfl) hb (by rw [hRw, grid_cell hGl hy12 hb, ← hsi, hGs])
  clear hrv hsi hG hGs hGl hRw
  go_wp2_with (go_at_call 159; refine (visits_c m ad ak cd ck [xn * 64 + an] w2.heap.size 0 1 w2 _ HM2.out OK ((Below.refl _ _).alloc (Nat.le_refl _) _) (by simp) (fun s hs => by rw [List.mem_singleton] at hs; rw [hs, show (xn * 64 + an) / 64 = xn from by omega]; exact hx) HQ.out (Nat.le_refl _)).mono ?_; rintro e w3 ⟨rfl, hb3⟩; rw [hHG.out]; have HB3 : Hid (Below w.heap.size w w3) := below_then HB2.out (((Below.refl _ _).alloc (Nat.le_refl _) _).trans hb3))
  go_ret2
  exact ⟨rfl, HB3.out⟩
set_option maxRecDepth 100000 in
set_option maxHeartbeats 8000000 in
theorem specAreApart_c (v : Value) (m : Wk) (x a y b : Int) (w : World) (hm : WkAt w v m) (wx : wfI x) (wa : wfI a) (wy : wfI y) (wb : wfI b) :
    Calls Try.prog 37 #[v, .int .i64 x, .int .i64 a, .int .i64 y, .int .i64 b] w fun e w' => e = .returned (.tuple #[.bool (pAreApart m x a y b).1, .bool (pAreApart m x a y b).2]) ∧ Below w.heap.size w w' := by
  have hM := hm
  obtain ⟨⟨ad, cd, ak, ck, rfl, hd, hk'⟩, nd, nk⟩ := hM
  cases b1 : visitB m x a
  case false =>
    have hp : pAreApart m x a y b = (false, false) := by simp [pAreApart, b1]
    rw [hp]
    clear hp
    go_enter Try.func37, Try.ntmps37
    go_wp2_with (go_at_call 160; refine (l8Visit_c _ m _ _ _ (hm.later (by (repeat (first | exact Below.refl _ _ | apply Below.drew | apply below_drewN | (refine Below.setCell ?_ (by first | omega | (simp; done) | (simp; omega) | (dsimp only; omega)) _) | (refine Below.alloc ?_ (by first | omega | (simp; done) | (simp; omega) | (dsimp only; omega)) _)))))).mono ?_; rintro e w1 ⟨rfl, hb1⟩; have HB1 : Hid (Below w.heap.size w w1) := below_then (by (repeat (first | exact Below.refl _ _ | apply Below.drew | apply below_drewN | (refine Below.setCell ?_ (by first | omega | (simp; done) | (simp; omega) | (dsimp only; omega)) _) | (refine Below.alloc ?_ (by first | omega | (simp; done) | (simp; omega) | (dsimp only; omega)) _)))) hb1; have HX1 : Hid (Below (w.heap.size + 1) (w.alloc (.cells #[.int .i64 m.size, .slice ad m.gates.length cd, .slice ak m.pulls.length ck] 36)) w1) := hb1.mono (by simp); rw [b1])
    go_ret2
    exact ⟨rfl, HB1.out⟩
  cases b2 : visitB m y b
  case false =>
    have hp : pAreApart m x a y b = (false, false) := by simp [pAreApart, b2]
    rw [hp]
    clear hp
    have HB2' := Lib.hid b2
    clear b2
    obtain ⟨q0, q1, q2, z1⟩ := box3W (Below.refl (w.heap.size + 1) (w.alloc (.cells #[.int .i64 m.size, .slice ad m.gates.length cd, .slice ak m.pulls.length ck] 36))) (by omega)
    go_enter Try.func37, Try.ntmps37
    go_wp2_with (first
      | (go_at_call 160; refine (l8Visit_c _ m _ _ _ (hm.later (by (repeat (first | exact Below.refl _ _ | apply Below.drew | apply below_drewN | (refine Below.setCell ?_ (by first | omega | (simp; done) | (simp; omega) | (dsimp only; omega)) _) | (refine Below.alloc ?_ (by first | omega | (simp; done) | (simp; omega) | (dsimp only; omega)) _)))))).mono ?_; rintro e w1 ⟨rfl, hb1⟩; have HB1 : Hid (Below w.heap.size w w1) := below_then (by (repeat (first | exact Below.refl _ _ | apply Below.drew | apply below_drewN | (refine Below.setCell ?_ (by first | omega | (simp; done) | (simp; omega) | (dsimp only; omega)) _) | (refine Below.alloc ?_ (by first | omega | (simp; done) | (simp; omega) | (dsimp only; omega)) _)))) hb1; have HX1 : Hid (Below (w.heap.size + 1) (w.alloc (.cells #[.int .i64 m.size, .slice ad m.gates.length cd, .slice ak m.pulls.length ck] 36)) w1) := hb1.mono (by simp); rw [b1]; clear q0 q1 q2; obtain ⟨q0, q1, q2, z1⟩ := box3W HX1.out (by omega))
      | (go_at_call 160; refine (l8Visit_c _ m _ _ _ (hm.later HB1.out)).mono ?_; rintro e w2 ⟨rfl, hb2⟩; have HB2 : Hid (Below w.heap.size w w2) := below_then HB1.out hb2; have HX2 : Hid (Below (w.heap.size + 1) (w.alloc (.cells #[.int .i64 m.size, .slice ad m.gates.length cd, .slice ak m.pulls.length ck] 36)) w2) := HX1.out.trans (hb2.mono (by omega)); rw [HB2'.out]))
    go_ret2
    exact ⟨rfl, HB2.out⟩
  obtain ⟨OK, xn, an, rfl, rfl, hx, ha⟩ := visit_ok b1
  obtain ⟨-, yn, bn, rfl, rfl, hy, hb⟩ := visit_ok b2
  have hs2 := OK.s2
  have hy12 : yn < 12 := by omega
  have hp : pAreApart m (xn : Int) (an : Int) (yn : Int) (bn : Int) = (decide (bD (bfF (nxW m) [((xn * 64 + an, 0) : Bn)]) (yn * 64 + bn) < 0), true) := by simp [pAreApart, b1, b2]
  rw [hp]
  obtain ⟨E, hE⟩ : ∃ E, E = bfF (nxW m) [((xn * 64 + an, 0) : Bn)] := ⟨_, rfl⟩
  rw [← hE]
  have HE := Lib.hid hE
  have HB2' := Lib.hid b2
  clear hp hE b2
  obtain ⟨si, hsi⟩ : ∃ si, si = yn * 64 + bn := ⟨_, rfl⟩
  rw [← hsi]
  have HSI := Lib.hid hsi
  obtain ⟨rv, hrv⟩ : ∃ rv, rv = bD E si := ⟨_, rfl⟩
  rw [← hrv]
  obtain ⟨q0, q1, q2, z1⟩ := box3W (Below.refl (w.heap.size + 1) (w.alloc (.cells #[.int .i64 m.size, .slice ad m.gates.length cd, .slice ak m.pulls.length ck] 36))) (by omega)
  go_enter Try.func37, Try.ntmps37
  go_upto_region 3 with (first
    | (go_at_call 160; refine (l8Visit_c _ m _ _ _ (hm.later (by (repeat (first | exact Below.refl _ _ | apply Below.drew | apply below_drewN | (refine Below.setCell ?_ (by first | omega | (simp; done) | (simp; omega) | (dsimp only; omega)) _) | (refine Below.alloc ?_ (by first | omega | (simp; done) | (simp; omega) | (dsimp only; omega)) _)))))).mono ?_; rintro e w1 ⟨rfl, hb1⟩; have HB1 : Hid (Below w.heap.size w w1) := below_then (by (repeat (first | exact Below.refl _ _ | apply Below.drew | apply below_drewN | (refine Below.setCell ?_ (by first | omega | (simp; done) | (simp; omega) | (dsimp only; omega)) _) | (refine Below.alloc ?_ (by first | omega | (simp; done) | (simp; omega) | (dsimp only; omega)) _)))) hb1; have HX1 : Hid (Below (w.heap.size + 1) (w.alloc (.cells #[.int .i64 m.size, .slice ad m.gates.length cd, .slice ak m.pulls.length ck] 36)) w1) := hb1.mono (by simp); rw [b1]; clear q0 q1 q2; obtain ⟨q0, q1, q2, z1⟩ := box3W HX1.out (by omega))
    | (go_at_call 160; refine (l8Visit_c _ m _ _ _ (hm.later HB1.out)).mono ?_; rintro e w2 ⟨rfl, hb2⟩; have HB2 : Hid (Below w.heap.size w w2) := below_then HB1.out hb2; have HX2 : Hid (Below (w.heap.size + 1) (w.alloc (.cells #[.int .i64 m.size, .slice ad m.gates.length cd, .slice ak m.pulls.length ck] 36)) w2) := HX1.out.trans (hb2.mono (by omega)); rw [HB2'.out]; clear q0 q1 q2; obtain ⟨q0, q1, q2, z2⟩ := box3W HX2.out (by omega)))
  have hsn : si < m.pulls.length * 64 := by have := OK.np; omega
  have hnp := OK.np
  obtain ⟨n, hn⟩ : ∃ n, n = m.pulls.length * 64 := ⟨_, rfl⟩
  rw [← hn] at hsn
  have hsI : (si : Int) < (n : Int) := by omega
  have HRV := Lib.hid hrv
  have HN := Lib.hid hn
  clear hrv hn hsi
  go_wp2_with (first
    | (go_at_call 161; refine (l8Spread_c m ad ak cd ck xn an n _ (hm.later HB2.out) OK hx ha HN.out).mono ?_; rintro e w3 ⟨a3, c3, rfl, hi3, hb3⟩; rw [← HE.out] at hi3; have HB3 : Hid (Below w.heap.size w w3) := below_then HB2.out hb3; obtain ⟨b4, o4, he4, hz4, hc4⟩ := hi3 si (by rw [gridN_len]; exact hsn); cases he4; rw [gridN_at n E hsn, ← HRV.out, Nat.zero_add] at hc4)
    | (go_at_call 162; refine (l4Id_c yn bn si HSI.out (by omega) (by omega) _).mono ?_; rintro e w4 ⟨rfl, rfl⟩))
  go_ret2
  exact ⟨rfl, HB3.out⟩
end Go.Proofs.Ytmilpahggceemaa

namespace Go.KD
open Go.RowKit
/-- The visits of the goal. -/
def goalS (m : Wk) : List Nat := (List.range 64).map fun l => (m.pulls.length - 1) * 64 + l
def goalF (m : Wk) : List Bn := bfF (nxW m) ((goalS m).map fun s => ((s, 0) : Bn))
def goalD (m : Wk) (i : Nat) : Int := bD (goalF m) i
def lstK (v : Nat → Int) : Nat → Int
  | 0 => -1
  | k + 1 => if decide (0 ≤ v k) && (decide (lstK v k < 0) || decide (v k < lstK v k)) then v k else lstK v k
theorem goalS_in {m : Wk} {s : Nat} : s ∈ goalS m ↔ ∃ l, l < 64 ∧ s = (m.pulls.length - 1) * 64 + l := by
  unfold goalS
  simp only [List.mem_map, List.mem_range]
  constructor
  · rintro ⟨l, h1, h2⟩; exact ⟨l, h1, h2.symm⟩
  · rintro ⟨l, h1, h2⟩; exact ⟨l, h1, h2.symm⟩
theorem goalS_nd (m : Wk) : (goalS m).Nodup := by
  unfold goalS
  rw [List.Nodup, List.pairwise_map]
  exact List.nodup_range.imp fun h he => h (by omega)
theorem goalS_sz {m : Wk} (ok : WkOk m) : ∀ s ∈ goalS m, ((s / 64 : Nat) : Int) < m.size := by
  intro s hs
  obtain ⟨l, hl, rfl⟩ := goalS_in.1 hs
  have h1 := ok.np
  have h2 := ok.s1
  omega
theorem goalS_lt {m : Wk} (ok : WkOk m) : ∀ s ∈ goalS m, s < 768 := by
  intro s hs
  have h := goalS_sz ok s hs
  have := ok.s2
  omega
theorem bf_at {m : Wk} (ok : WkOk m) {S : List Nat} (hS : S.Nodup) (hl : ∀ s ∈ S, s < 768) : BOk (nxW m) S (bfF (nxW m) (S.map fun s => ((s, 0) : Bn))) 768 0 := bfE_ok (nxW_lt ok) (b_start hS hl) 768
theorem goal_ans {m : Wk} (ok : WkOk m) (i : Nat) : bAns (nxW m) (goalS m) i (goalD m i) := bf_ans (bf_at ok (goalS_nd m) (goalS_lt ok)) i
theorem one_ans {m : Wk} (ok : WkOk m) {s : Nat} (hs : s < 768) (i : Nat) : bAns (nxW m) [s] i (bD (bfF (nxW m) [((s, 0) : Bn)]) i) := by
  have := bf_ans (bf_at ok (S := [s]) (by simp) (fun t ht => by rw [List.mem_singleton] at ht; omega)) i
  exact this
theorem lst_spec (v : Nat → Int) : ∀ k, (lstK v k = -1 ∧ ∀ j, j < k → v j < 0) ∨ (0 ≤ lstK v k ∧ (∃ j, j < k ∧ lstK v k = v j) ∧ ∀ j, j < k → 0 ≤ v j → lstK v k ≤ v j)
  | 0 => .inl ⟨rfl, fun j hj => by omega⟩
  | k + 1 => by
    have ih := lst_spec v k
    show ((if decide (0 ≤ v k) && (decide (lstK v k < 0) || decide (v k < lstK v k)) then v k else lstK v k) = -1 ∧ _) ∨ (0 ≤ (if decide (0 ≤ v k) && (decide (lstK v k < 0) || decide (v k < lstK v k)) then v k else lstK v k) ∧ (∃ j, j < k + 1 ∧ (if decide (0 ≤ v k) && (decide (lstK v k < 0) || decide (v k < lstK v k)) then v k else lstK v k) = v j) ∧ _)
    by_cases h : (decide (0 ≤ v k) && (decide (lstK v k < 0) || decide (v k < lstK v k))) = true
    · simp only [lstK]
      rw [if_pos h]
      simp only [Bool.and_eq_true, Bool.or_eq_true, decide_eq_true_eq] at h
      right
      refine ⟨h.1, ⟨k, by omega, rfl⟩, fun j hj hv => ?_⟩
      rcases Nat.lt_or_ge j k with hjk | hjk
      · rcases ih with ⟨h1, h2⟩ | ⟨h1, h2, h3⟩
        · have := h2 j hjk; omega
        · have := h3 j hjk hv
          rcases h.2 with h4 | h4 <;> omega
      · obtain rfl : j = k := by omega
        exact Int.le_refl _
    · simp only [lstK]
      rw [if_neg h]
      simp only [Bool.and_eq_true, Bool.or_eq_true, decide_eq_true_eq, not_and, not_or] at h
      rcases ih with ⟨h1, h2⟩ | ⟨h1, ⟨q, hq, hq2⟩, h3⟩
      · left
        refine ⟨h1, fun j hj => ?_⟩
        rcases Nat.lt_or_ge j k with hjk | hjk
        · exact h2 j hjk
        · obtain rfl : j = k := by omega
          rcases Int.lt_or_le (v j) 0 with h4 | h4
          · exact h4
          · have := (h h4).1; omega
      · right
        refine ⟨h1, ⟨q, by omega, hq2⟩, fun j hj hv => ?_⟩
        rcases Nat.lt_or_ge j k with hjk | hjk
        · exact h3 j hjk hv
        · obtain rfl : j = k := by omega
          have := (h hv).2; omega
/-- From a visit to the goal: as many acts as back. -/
theorem goal_least {m : Wk} (ok : WkOk m) {i : Nat} (hi : i < 768) : lstK (fun s => bD (bfF (nxW m) [((i, 0) : Bn)]) ((m.pulls.length - 1) * 64 + s)) 64 = goalD m i := by
  obtain ⟨u, hu⟩ : ∃ u : Nat → Int, u = fun s => bD (bfF (nxW m) [((i, 0) : Bn)]) ((m.pulls.length - 1) * 64 + s) := ⟨_, rfl⟩
  have hv : ∀ s, bAns (nxW m) [i] ((m.pulls.length - 1) * 64 + s) (u s) := fun s => by rw [hu]; exact one_ans ok hi ((m.pulls.length - 1) * 64 + s)
  rw [← hu]
  clear hu
  refine bAns_one (nx := nxW m) (S := goalS m) (y := i) ?_ (goal_ans ok i)
  obtain ⟨t, ht⟩ : ∃ t, t = lstK u 64 := ⟨_, rfl⟩
  have hsp := lst_spec u 64
  rw [← ht] at hsp ⊢
  clear ht
  rcases hsp with ⟨h1, h2⟩ | ⟨h1, ⟨q, hq, hq2⟩, h3⟩
  · refine .inl ⟨h1, fun k s hs hw => ?_⟩
    obtain ⟨l, hl, rfl⟩ := goalS_in.1 hs
    have hr := bWalk_rev (nxW_lt ok) (nxW_sym ok) (goalS_lt ok _ hs) hw
    rcases hv l with ⟨h4, h5⟩ | ⟨h4, h5⟩
    · exact h5 k i (by simp) hr
    · have := h2 l hl
      omega
  · refine .inr ⟨h1, ?_, fun k s hs hw => ?_⟩
    · rcases hv q with ⟨h4, -⟩ | ⟨h4, ⟨s, hs, hw⟩, -⟩
      · omega
      · rw [List.mem_singleton] at hs
        subst hs
        refine ⟨_, goalS_in.2 ⟨q, hq, rfl⟩, ?_⟩
        rw [hq2]
        exact bWalk_rev (nxW_lt ok) (nxW_sym ok) hi hw
    · obtain ⟨l, hl, rfl⟩ := goalS_in.1 hs
      have hr := bWalk_rev (nxW_lt ok) (nxW_sym ok) (goalS_lt ok _ hs) hw
      rcases hv l with ⟨h4, h5⟩ | ⟨h4, -, h5⟩
      · exact absurd hr (h5 k i (by simp))
      · have h6 := h3 l hl h4
        have h7 := h5 k i (by simp) hr
        omega
noncomputable def pFewestActs (m : Wk) : Int × Bool := if worksB m then (if 0 ≤ goalD m 0 then goalD m 0 else 0, decide (0 ≤ goalD m 0)) else (0, false)
end Go.KD

namespace Go.KD
open Go.RowKit
theorem ans_apart {nx : Nat → List Nat} {s t : Nat} {c : Int} (h : bAns nx [s] t c) : c < 0 ↔ ∀ k, ¬ bWalk nx k s t := by
  rcases h with ⟨h1, h2⟩ | ⟨h1, ⟨u, hu, hw⟩, -⟩
  · exact ⟨fun _ k => h2 k s (by simp), fun _ => by omega⟩
  · obtain rfl : u = s := by simpa using hu
    exact ⟨fun h => by omega, fun h => absurd hw (h _)⟩
theorem bD_apart {m : Wk} (ok : WkOk m) {s t : Nat} (hs : s < 768) : bD (bfF (nxW m) [((s, 0) : Bn)]) t < 0 ↔ ∀ k, ¬ bWalk (nxW m) k s t := ans_apart (one_ans ok hs t)
theorem apart_sym {m : Wk} {x a y b : Int} : pAreApart m x a y b = pAreApart m y b x a := by
  unfold pAreApart
  cases h1 : visitB m x a
  · cases h2 : visitB m y b <;> simp
  · cases h2 : visitB m y b
    · simp
    · obtain ⟨ok, xn, an, rfl, rfl, hx, ha⟩ := visit_ok h1
      obtain ⟨-, yn, bn, rfl, rfl, hy, hb⟩ := visit_ok h2
      have := ok.s2
      simp only [Bool.and_self, if_true, Int.toNat_natCast, Prod.mk.injEq, and_true, decide_eq_decide]
      rw [bD_apart ok (by omega), bD_apart ok (by omega)]
      exact ⟨fun h k hw => h k (bWalk_rev (nxW_lt ok) (fun p q hp hq => nxW_sym ok p q hp hq) (by omega) hw), fun h k hw => h k (bWalk_rev (nxW_lt ok) (fun p q hp hq => nxW_sym ok p q hp hq) (by omega) hw)⟩
theorem run_walk {m : Wk} (ok : WkOk m) (p : List Int) : ∀ (k : Nat) (x l : Int), runK m p k = some (x, l) → bWalk (nxW m) k 0 (x.toNat * 64 + l.toNat)
  | 0, x, l, h => by
    simp only [runK, Option.some.injEq, Prod.mk.injEq] at h
    obtain ⟨rfl, rfl⟩ := h
    rfl
  | k + 1, x, l, h => by
    unfold runK at h
    split at h
    · cases h
    · rename_i x0 l0 h0
      obtain ⟨xn, ln, rfl, rfl, hx, hl⟩ := runK_ok ok p k _ _ h0
      have ih := run_walk ok p k _ _ h0
      split at h
      · rename_i ha
        rw [hasI_iff] at ha
        simp only [Option.some.injEq] at h
        obtain ⟨y, c, hd, hy, hc, hw⟩ := do_nat ok hx hl ha
        rw [hd] at h
        cases h
        refine ⟨xn * 64 + ln, by simpa using ih, ?_⟩
        have e1 : (xn * 64 + ln) / 64 = xn := by omega
        have e2 : (xn * 64 + ln) % 64 = ln := by omega
        unfold nxW
        rw [e1, e2, if_pos hx, List.mem_map]
        exact ⟨_, ha, by rw [hw]; simp⟩
      · cases h
/-- Where a plan leads is not apart from the start. -/
theorem run_near {m : Wk} (ok : WkOk m) {p : List Int} {x l : Int} (h : runP m p = (x, l, true)) : pAreApart m 0 0 x l = (false, true) := by
  unfold runP at h
  split at h
  case isFalse => cases h
  case isTrue h60 =>
    cases hr : runK m p p.length with
    | none => rw [hr] at h; cases h
    | some u =>
      obtain ⟨x0, l0⟩ := u
      rw [hr] at h
      cases h
      obtain ⟨xn, ln, rfl, rfl, hx, hl⟩ := runK_ok ok p _ _ _ hr
      have hw := run_walk ok p _ _ _ hr
      have hv : ∀ (y c : Nat), (y : Int) < m.size → c < 64 → visitB m y c = true := fun y c hy hc => by
        unfold visitB
        rw [worksB_true.2 ok, inB_true.2 (by omega), setB_true.2 (by omega)]; rfl
      have h00 := hv 0 0 (by have := ok.s1; omega) (by omega)
      have h00' : visitB m 0 0 = true := h00
      unfold pAreApart
      rw [h00', hv xn ln hx hl]
      simp only [Bool.and_self, if_true, Int.toNat_natCast, Int.toNat_zero, Prod.mk.injEq, and_true, decide_eq_false_iff_not]
      rw [bD_apart ok (by omega)]
      exact fun hn => hn _ (by simpa using hw)
/-! Turned levers -/
theorem gate_in {m : Wk} (ok : WkOk m) {g : D4} (hg : g ∈ m.gates) : 0 ≤ g.1 ∧ g.1 < g.2.1 ∧ g.2.1 < m.size ∧ 0 ≤ g.2.2.1 ∧ g.2.2.1 < 64 ∧ 0 ≤ g.2.2.2 ∧ g.2.2.2 ≤ 1 := by
  obtain ⟨k, hk, rfl⟩ := List.mem_iff_getElem.1 hg
  exact gate_facts ok hk (by rw [getElem!_pos m.gates k hk])
theorem turnD_01 {l : Int} {g : D4} (h0 : 0 ≤ g.2.2.2) (h1 : g.2.2.2 ≤ 1) : 0 ≤ turnD l g ∧ turnD l g ≤ 1 := by
  unfold turnD
  have : g.2.2.2.toNat ^^^ (popN (g.2.2.1.toNat &&& l.toNat) % 2) < 2 ^ 1 := Nat.xor_lt_two_pow (by omega) (by omega)
  omega
theorem turnG_back {l : Int} {g : D4} (h0 : 0 ≤ g.2.2.2) : turnG l (turnG l g) = g := by
  obtain ⟨a, b, c, d⟩ := g
  dsimp only at h0
  unfold turnG turnD
  simp only [Int.toNat_natCast, Nat.xor_assoc, Nat.xor_self, Nat.xor_zero, Prod.mk.injEq, true_and]
  omega
theorem turn_ok {m : Wk} (ok : WkOk m) (l : Int) : WkOk ⟨m.size, turnL l m.gates, m.pulls⟩ := by
  obtain ⟨hs, hm⟩ := turnL_ok l m.gates
  refine ⟨ok.s1, ok.s2, Nat.le_trans (turnL_len l m.gates) ok.ng, ok.np, fun k hk0 => ?_, ok.pl⟩
  have hk : k < (turnL l m.gates).length := hk0
  obtain ⟨g, hg, he⟩ := List.mem_map.1 ((hm _).1 (List.getElem_mem hk))
  have f := gate_in ok hg
  have hd := turnD_01 (l := l) f.2.2.2.2.2.1 f.2.2.2.2.2.2
  have hx : (turnL l m.gates)[k]! = (g.1, g.2.1, g.2.2.1, turnD l g) := by rw [getElem!_pos _ k hk, ← he]; rfl
  rw [gateB_eq hx]
  simp only [Bool.and_eq_true, inB_true, setB_true, Bool.or_eq_true, beq_iff_eq]
  refine ⟨⟨⟨⟨by omega, by omega⟩, by omega⟩, by omega⟩, ?_⟩
  by_cases e : k = 0
  · exact .inl e
  · right
    have := List.pairwise_iff_getElem.1 hs (k - 1) k (by omega) hk (by omega)
    rw [← hx, getElem!_pos _ k hk, getElem!_pos _ (k - 1) (by omega)]
    exact this
theorem turn_back {m : Wk} (ok : WkOk m) (l : Int) : turnL l (turnL l m.gates) = m.gates := by
  obtain ⟨h1, h2⟩ := turnL_ok l (turnL l m.gates)
  refine sorted4_ext _ _ h1 (gates_sorted ok) fun x => ?_
  rw [h2]
  constructor
  · intro h
    obtain ⟨y, hy, rfl⟩ := List.mem_map.1 h
    obtain ⟨z, hz, rfl⟩ := List.mem_map.1 (((turnL_ok l m.gates).2 y).1 hy)
    rw [turnG_back (gate_in ok hz).2.2.2.2.2.1]; exact hz
  · intro h
    refine List.mem_map.2 ⟨turnG l x, ((turnL_ok l m.gates).2 _).2 (List.mem_map.2 ⟨x, h, rfl⟩), turnG_back (gate_in ok h).2.2.2.2.2.1⟩
theorem turn_turn {m R : Wk} {l : Int} (h : pTurnLevers m l = (R, true)) : pTurnLevers R l = (m, true) := by
  unfold pTurnLevers at h
  split at h
  case isFalse => cases h
  case isTrue hc =>
    cases h
    rw [Bool.and_eq_true, worksB_true] at hc
    obtain ⟨ok, hl⟩ := hc
    unfold pTurnLevers
    rw [worksB_true.2 (turn_ok ok l), hl, Bool.and_self, if_pos rfl, turn_back ok l]
theorem popc_popN (s : Nat) : popc s = popN s := by unfold popc; rfl
theorem open_turn {l : Int} {g : D4} (h0 : 0 ≤ g.2.2.2) (h1 : g.2.2.2 ≤ 1) : openB (turnG l g) 0 = openB g l := by
  unfold openB turnG
  dsimp only
  rw [decide_eq_decide]
  have e0 : g.2.2.1.toNat &&& (0 : Int).toNat = 0 := by simp
  rw [e0]
  have hp : popc 0 = 0 := by decide
  rw [hp]
  have ec : popc (g.2.2.1.toNat &&& l.toNat) = ((popN (g.2.2.1.toNat &&& l.toNat) : Nat) : Int) := by first | rfl | simp [popc]
  rw [ec]
  unfold turnD
  have hc : popN (g.2.2.1.toNat &&& l.toNat) % 2 = 0 ∨ popN (g.2.2.1.toNat &&& l.toNat) % 2 = 1 := by omega
  have hd : g.2.2.2.toNat = 0 ∨ g.2.2.2.toNat = 1 := by omega
  rcases hc with hc | hc <;> rcases hd with hd | hd <;> rw [hc, hd] <;> simp <;> omega
theorem acts_turn {m : Wk} (ok : WkOk m) (l : Int) (x : Nat) : actsL ⟨m.size, turnL l m.gates, m.pulls⟩ x 0 = actsL m x l := by
  unfold actsL
  dsimp only
  have e : nbK (turnL l m.gates) x 0 (turnL l m.gates).length = nbK m.gates x l m.gates.length := by
    apply Nat.eq_of_testBit_eq
    intro y
    rw [Bool.eq_iff_iff, nb_bit (turn_ok ok l) x 0 y _ (Nat.le_refl _), nb_bit ok x l y _ (Nat.le_refl _)]
    dsimp only
    constructor
    · rintro ⟨k, hk, ho, hc⟩
      rw [getElem!_pos _ k hk] at ho hc
      obtain ⟨g, hg, he⟩ := List.mem_map.1 (((turnL_ok l m.gates).2 _).1 (List.getElem_mem hk))
      obtain ⟨j, hj, rfl⟩ := List.mem_iff_getElem.1 hg
      have f := gate_in ok hg
      rw [← he] at ho hc
      rw [open_turn f.2.2.2.2.2.1 f.2.2.2.2.2.2] at ho
      exact ⟨j, hj, by rw [getElem!_pos _ j hj]; exact ho, by rw [getElem!_pos _ j hj]; exact hc⟩
    · rintro ⟨j, hj, ho, hc⟩
      rw [getElem!_pos _ j hj] at ho hc
      have hg := List.getElem_mem hj
      have f := gate_in ok hg
      obtain ⟨k, hk, he⟩ := List.mem_iff_getElem.1 (((turnL_ok l m.gates).2 _).2 (List.mem_map.2 ⟨_, hg, rfl⟩))
      refine ⟨k, hk, ?_, ?_⟩
      · rw [getElem!_pos _ k hk, he, open_turn f.2.2.2.2.2.1 f.2.2.2.2.2.2]; exact ho
      · rw [getElem!_pos _ k hk, he]; exact hc
  rw [e]
theorem acts_turned {m R : Wk} {l : Int} (h : pTurnLevers m l = (R, true)) {x : Nat} (hx : (x : Int) < m.size) : ∃ A, pActsAt m x l = (A, true) ∧ pActsAt R x 0 = (A, true) := by
  unfold pTurnLevers at h
  split at h
  case isFalse => cases h
  case isTrue hc =>
    cases h
    rw [Bool.and_eq_true, worksB_true] at hc
    obtain ⟨ok, hl⟩ := hc
    refine ⟨actsL m x l, ?_, ?_⟩
    · unfold pActsAt visitB
      rw [worksB_true.2 ok, inB_true.2 (by omega), hl]; rfl
    · unfold pActsAt visitB
      dsimp only
      rw [worksB_true.2 (turn_ok ok l), inB_true.2 (by omega), setB_true.2 (by omega), acts_turn ok l x]; rfl
end Go.KD

namespace Go.Proofs.Ytmilpahggceemaa
open Go.RowKit Go.KD
attribute [local go_sem] later_cell later_frozen
set_option maxRecDepth 100000 in
set_option maxHeartbeats 4000000 in
theorem l8Run_c (v : Value) (m : Wk) (a : Option Addr) (cap : Nat) (p : List Int) (w : World) (hm : WkAt w v m) (ok : WkOk m) (hA : IC w a p) (hl : p.length ≤ 1048576) :
    Calls Try.prog 142 #[v, .slice a p.length cap] w fun e w' => e = .returned (.tuple #[.int .i64 (runP m p).1, .int .i64 (runP m p).2.1, .bool (runP m p).2.2]) ∧ Below w.heap.size w w' := by
  have hM := hm
  obtain ⟨⟨ad, cd, ak, ck, rfl, hd, hk'⟩, nd, nk⟩ := hM
  have OK := Lib.hid ok; clear ok
  by_cases h60 : p.length ≤ 60
  case neg =>
    have g : decide ((60 : Int) < (p.length : Int)) = true := by simp; omega
    have HD : Hid (runP m p = (0, 0, false)) := by show _ = _; simp [runP, h60]
    clear h60
    go_enter Try.func142, Try.ntmps142
    go_wp2
    go_ret3
    exact ⟨ret_tup2 (by rw [HD.out] <;> rfl), by (repeat (first | exact Below.refl _ _ | apply Below.drew | apply below_drewN | (refine Below.setCell ?_ (by first | omega | (simp; done) | (simp; omega) | (dsimp only; omega)) _) | (refine Below.alloc ?_ (by first | omega | (simp; done) | (simp; omega) | (dsimp only; omega)) _)))⟩
  case pos =>
    have g : decide ((60 : Int) < (p.length : Int)) = false := by simp; omega
    go_enter Try.func142, Try.ntmps142
    go_wp2
    go_loopw [7, 8, 9] (fun x l i wr => ∃ k xn ln : Nat, k ≤ p.length ∧ i = .int .i64 k ∧ x = .int .i64 xn ∧ l = .int .i64 ln ∧ Hid (runK m p k = some ((xn : Int), (ln : Int))) ∧ (xn : Int) < m.size ∧ ln < 64 ∧ Below (w.heap.size + 1) (w.alloc (.cells #[.int .i64 m.size, .slice ad m.gates.length cd, .slice ak m.pulls.length ck] 36)) wr) (fun _ _ i _ => p.length - (intOf i).toNat)
    case atStart => exact ⟨0, 0, 0, Nat.zero_le _, rfl, rfl, rfl, rfl, by have := OK.out.s1; simp; omega, by omega, Below.refl _ _⟩
    case round =>
      obtain ⟨wo, rfl⟩ : ∃ wo : World, wo = wr := ⟨_, rfl⟩
      obtain ⟨k, xn, ln, hkl, rfl, rfl, rfl, HR, hx, hln, hb⟩ := hrel
      obtain ⟨hc, hf, hz⟩ := bcell3 hb
      simp only [World.size_alloc] at hz
      have hz1 : w.heap.size < wo.heap.size := by omega
      have HB : Hid (Below w.heap.size w wo) := (by (repeat (first | exact Below.refl _ _ | apply Below.drew | apply below_drewN | (refine Below.setCell ?_ (by first | omega | (simp; done) | (simp; omega) | (dsimp only; omega)) _) | (refine Below.alloc ?_ (by first | omega | (simp; done) | (simp; omega) | (dsimp only; omega)) _))) : Below w.heap.size w (w.alloc _)).trans (hb.mono (by omega))
      have HBo := Lib.hid hb
      by_cases hlt : k < p.length
      · obtain ⟨b, off, y, rfl, HY, hbs, e0⟩ := (hA.later HB.out).at k hlt
        have h41 := actsL_len m xn ln
        cases p1 : hasI (actsL m xn ln) y
        · have HD : Hid (runP m p = (0, 0, false)) := by
            show _ = _
            have h1 : runK m p (k + 1) = none := by unfold runK; rw [HR.out]; simp [HY.out, p1]
            have h2 := runK_none h1 (p.length - (k + 1))
            rw [show k + 1 + (p.length - (k + 1)) = p.length from by omega] at h2
            simp [runP, h2]
          have q0 : wo.cell? ⟨w.heap.size, 0, none⟩ = some (.int .i64 m.size) := by rw [HBo.out.cell (p := ⟨w.heap.size, 0, none⟩) (by simp)]; simp [go_sem]
          have q1 : wo.cell? ⟨w.heap.size, 1, none⟩ = some (.slice ad m.gates.length cd) := by rw [HBo.out.cell (p := ⟨w.heap.size, 1, none⟩) (by simp)]; simp [go_sem]
          have q2 : wo.cell? ⟨w.heap.size, 2, none⟩ = some (.slice ak m.pulls.length ck) := by rw [HBo.out.cell (p := ⟨w.heap.size, 2, none⟩) (by simp)]; simp [go_sem]
          have q3 : wo.cell? ⟨b, off + k, none⟩ = some (.int .i64 y) := e0
          go_wp2
          go_region_held3 (fun W => W.cell? ⟨w.heap.size, 0, none⟩ = some (.int .i64 m.size) ∧ W.cell? ⟨w.heap.size, 1, none⟩ = some (.slice ad m.gates.length cd) ∧ W.cell? ⟨w.heap.size, 2, none⟩ = some (.slice ak m.pulls.length ck) ∧ W.cell? ⟨b, off + k, none⟩ = some (.int .i64 y))
            (first | exact ⟨q0, q1, q2, q3⟩ | exact ⟨r0, r1, r2, r3⟩)
            (first | (go_at_call 177; refine (l8Acts_c _ m xn ln _ (hm.later HB.out.drew) OK.out hx hln).mono ?_; rintro e w2 ⟨u, rfl, ⟨bu, ou, cu, rfl, hi, -, -⟩, hb2⟩; have HI := Lib.hid hi; clear hi; have r0 : w2.cell? ⟨w.heap.size, 0, none⟩ = some (.int .i64 m.size) := (hb2.cell (p := ⟨w.heap.size, 0, none⟩) (show w.heap.size < wo.heap.size by assumption)).trans q0; have r1 : w2.cell? ⟨w.heap.size, 1, none⟩ = some (.slice ad m.gates.length cd) := (hb2.cell (p := ⟨w.heap.size, 1, none⟩) (show w.heap.size < wo.heap.size by assumption)).trans q1; have r2 : w2.cell? ⟨w.heap.size, 2, none⟩ = some (.slice ak m.pulls.length ck) := (hb2.cell (p := ⟨w.heap.size, 2, none⟩) (show w.heap.size < wo.heap.size by assumption)).trans q2; have r3 : w2.cell? ⟨b, off + k, none⟩ = some (.int .i64 y) := (hb2.cell (p := ⟨b, off + k, none⟩) (show b < wo.heap.size by assumption)).trans q3) | (go_at_call 183; refine (l1Has_c _ _ _ (actsL m xn ln) _ _ rfl HI.out (by omega)).mono ?_; rintro e w3 ⟨rfl, rfl⟩; rw [p1]))
          go_wp2
          go_ret3
          exact ⟨ret_tup2 (by rw [HD.out] <;> rfl), below_then HB.out.drew hb2⟩
        · have h1 : runK m p (k + 1) = some (doP m xn ln y) := by unfold runK; rw [HR.out]; simp [HY.out, p1]
          obtain ⟨x2, l2, hx2, hl2, hx3, hl3⟩ := runK_ok OK.out p (k + 1) (doP m xn ln y).1 (doP m xn ln y).2 h1
          have HX2 := Lib.hid hx2; have HL2 := Lib.hid hl2; clear hx2 hl2
          have H1 := Lib.hid h1; clear h1
          have q0 : wo.cell? ⟨w.heap.size, 0, none⟩ = some (.int .i64 m.size) := by rw [HBo.out.cell (p := ⟨w.heap.size, 0, none⟩) (by simp)]; simp [go_sem]
          have q1 : wo.cell? ⟨w.heap.size, 1, none⟩ = some (.slice ad m.gates.length cd) := by rw [HBo.out.cell (p := ⟨w.heap.size, 1, none⟩) (by simp)]; simp [go_sem]
          have q2 : wo.cell? ⟨w.heap.size, 2, none⟩ = some (.slice ak m.pulls.length ck) := by rw [HBo.out.cell (p := ⟨w.heap.size, 2, none⟩) (by simp)]; simp [go_sem]
          have q3 : wo.cell? ⟨b, off + k, none⟩ = some (.int .i64 y) := e0
          go_wp2
          go_region_held3 (fun W => W.cell? ⟨w.heap.size, 0, none⟩ = some (.int .i64 m.size) ∧ W.cell? ⟨w.heap.size, 1, none⟩ = some (.slice ad m.gates.length cd) ∧ W.cell? ⟨w.heap.size, 2, none⟩ = some (.slice ak m.pulls.length ck) ∧ W.cell? ⟨b, off + k, none⟩ = some (.int .i64 y))
            (first | exact ⟨q0, q1, q2, q3⟩ | exact ⟨r0, r1, r2, r3⟩)
            (first | (go_at_call 177; refine (l8Acts_c _ m xn ln _ (hm.later HB.out.drew) OK.out hx hln).mono ?_; rintro e w2 ⟨u, rfl, ⟨bu, ou, cu, rfl, hi, -, -⟩, hb2⟩; have HI := Lib.hid hi; clear hi; have r0 : w2.cell? ⟨w.heap.size, 0, none⟩ = some (.int .i64 m.size) := (hb2.cell (p := ⟨w.heap.size, 0, none⟩) (show w.heap.size < wo.heap.size by assumption)).trans q0; have r1 : w2.cell? ⟨w.heap.size, 1, none⟩ = some (.slice ad m.gates.length cd) := (hb2.cell (p := ⟨w.heap.size, 1, none⟩) (show w.heap.size < wo.heap.size by assumption)).trans q1; have r2 : w2.cell? ⟨w.heap.size, 2, none⟩ = some (.slice ak m.pulls.length ck) := (hb2.cell (p := ⟨w.heap.size, 2, none⟩) (show w.heap.size < wo.heap.size by assumption)).trans q2; have r3 : w2.cell? ⟨b, off + k, none⟩ = some (.int .i64 y) := (hb2.cell (p := ⟨b, off + k, none⟩) (show b < wo.heap.size by assumption)).trans q3) | (go_at_call 183; refine (l1Has_c _ _ _ (actsL m xn ln) _ _ rfl HI.out (by omega)).mono ?_; rintro e w3 ⟨rfl, rfl⟩; rw [p1]))
          have HB2 : Hid (Below w.heap.size w w2) := below_then HB.out.drew hb2
          have hz2 : wo.heap.size ≤ w2.heap.size := hb2.size
          have HB2' : Hid (Below (w.heap.size + 1) (w.alloc (.cells #[.int .i64 m.size, .slice ad m.gates.length cd, .slice ak m.pulls.length ck] 36)) w2) := HBo.out.drew.trans (hb2.mono (show w.heap.size + 1 ≤ wo.heap.size by omega))
          clear hb2 hc hf
          go_wp2
          go_region_held3 (fun W => W.cell? ⟨w.heap.size, 0, none⟩ = some (.int .i64 m.size) ∧ W.cell? ⟨w.heap.size, 1, none⟩ = some (.slice ad m.gates.length cd) ∧ W.cell? ⟨w.heap.size, 2, none⟩ = some (.slice ak m.pulls.length ck) ∧ W.cell? ⟨b, off + k, none⟩ = some (.int .i64 y))
            (first | exact ⟨r0, r1, r2, r3⟩ | exact ⟨s0, s1, s2, s3⟩)
            ((go_at_call 178; refine (l8Do_c _ m xn ln y _ (hm.later HB2.out.drew) OK.out hx hln).mono ?_; rintro e w4 ⟨rfl, hb4⟩; rw [HX2.out, HL2.out]; have s0 : w4.cell? ⟨w.heap.size, 0, none⟩ = some (.int .i64 m.size) := (hb4.cell (p := ⟨w.heap.size, 0, none⟩) (show w.heap.size < w2.heap.size by omega)).trans r0; have s1 : w4.cell? ⟨w.heap.size, 1, none⟩ = some (.slice ad m.gates.length cd) := (hb4.cell (p := ⟨w.heap.size, 1, none⟩) (show w.heap.size < w2.heap.size by omega)).trans r1; have s2 : w4.cell? ⟨w.heap.size, 2, none⟩ = some (.slice ak m.pulls.length ck) := (hb4.cell (p := ⟨w.heap.size, 2, none⟩) (show w.heap.size < w2.heap.size by omega)).trans r2; have s3 : w4.cell? ⟨b, off + k, none⟩ = some (.int .i64 y) := (hb4.cell (p := ⟨b, off + k, none⟩) (show b < w2.heap.size by omega)).trans r3))
          go_wp2
          go_roundw
          case rel => exact ⟨k + 1, x2, l2, by omega, by go_num, rfl, rfl, by show _ = _; rw [H1.out, ← HX2.out, ← HL2.out], hx3, hl3, HB2'.out.drew.trans (hb4.mono (show w.heap.size + 1 ≤ w2.heap.size by omega))⟩
          case measure => simp [intOf]; omega
      · obtain rfl : k = p.length := by omega
        have HD : Hid (runP m p = ((xn : Int), (ln : Int), true)) := by show _ = _; simp [runP, h60, HR.out]
        go_wp2
        go_ret3
        exact ⟨ret_tup2 (by rw [HD.out] <;> rfl), HB.out⟩
end Go.Proofs.Ytmilpahggceemaa

namespace Go.KD
noncomputable def pIsPlan (m : Wk) (p : List Int) : Bool × Bool := if worksB m then ((runP m p).2.2, true) else (false, false)
end Go.KD
namespace Go.Proofs.Ytmilpahggceemaa
open Go.RowKit Go.KD
attribute [local go_sem] later_cell later_frozen
theorem specIsPlan_c (v : Value) (m : Wk) (a : Option Addr) (cap : Nat) (p : List Int) (w : World) (hm : WkAt w v m) (hA : IC w a p) (hl : p.length ≤ 1048576) (wl : ∀ y ∈ p, wfI y) :
    Calls Try.prog 27 #[v, .slice a p.length cap] w fun e w' => e = .returned (.tuple #[.bool (pIsPlan m p).1, .bool (pIsPlan m p).2]) ∧ Below w.heap.size w w' := by
  have hM := hm
  obtain ⟨⟨ad, cd, ak, ck, rfl, hd, hk'⟩, nd, nk⟩ := hM
  cases g : worksB m
  · have HD : Hid (pIsPlan m p = (false, false)) := by show _ = _; simp [pIsPlan, g]
    go_enter Try.func27, Try.ntmps27
    go_wp2_with fail
    refine (l8Works_c _ m _ (hm.later (by (repeat (first | exact Below.refl _ _ | apply Below.drew | apply below_drewN | (refine Below.setCell ?_ (by first | omega | (simp; done) | (simp; omega) | (dsimp only; omega)) _) | (refine Below.alloc ?_ (by first | omega | (simp; done) | (simp; omega) | (dsimp only; omega)) _)))))).mono ?_
    rintro e w1 ⟨rfl, hb1⟩
    have HB1 : Hid (Below w.heap.size w w1) := below_then (by (repeat (first | exact Below.refl _ _ | apply Below.drew | apply below_drewN | (refine Below.setCell ?_ (by first | omega | (simp; done) | (simp; omega) | (dsimp only; omega)) _) | (refine Below.alloc ?_ (by first | omega | (simp; done) | (simp; omega) | (dsimp only; omega)) _)))) hb1
    rw [g]
    go_wp2_with fail
    go_ret2
    exact ⟨ret_tup2 (by rw [HD.out] <;> rfl), HB1.out⟩
  · have HD : Hid (pIsPlan m p = ((runP m p).2.2, true)) := by show _ = _; simp [pIsPlan, g]
    have OK := Lib.hid (worksB_true.1 g)
    go_enter Try.func27, Try.ntmps27
    go_wp2_with fail
    refine (l8Works_c _ m _ (hm.later (by (repeat (first | exact Below.refl _ _ | apply Below.drew | apply below_drewN | (refine Below.setCell ?_ (by first | omega | (simp; done) | (simp; omega) | (dsimp only; omega)) _) | (refine Below.alloc ?_ (by first | omega | (simp; done) | (simp; omega) | (dsimp only; omega)) _)))))).mono ?_
    rintro e w1 ⟨rfl, hb1⟩
    have HB1 : Hid (Below w.heap.size w w1) := below_then (by (repeat (first | exact Below.refl _ _ | apply Below.drew | apply below_drewN | (refine Below.setCell ?_ (by first | omega | (simp; done) | (simp; omega) | (dsimp only; omega)) _) | (refine Below.alloc ?_ (by first | omega | (simp; done) | (simp; omega) | (dsimp only; omega)) _)))) hb1
    obtain ⟨hc1, hf1, hz1⟩ := bcell3 hb1
    rw [g]
    go_wp2_with fail
    refine (l8Run_c _ m _ _ p _ (hm.later HB1.out) OK.out (hA.later HB1.out) hl).mono ?_
    rintro e w2 ⟨rfl, hb2⟩
    go_wp2
    go_ret2
    exact ⟨ret_tup2 (by rw [HD.out] <;> rfl), below_then HB1.out hb2⟩
theorem implIsPlan_c (v : Value) (m : Wk) (a : Option Addr) (cap : Nat) (p : List Int) (w : World) (hm : WkAt w v m) (hA : IC w a p) (hl : p.length ≤ 1048576) (wl : ∀ y ∈ p, wfI y) :
    Calls Try.prog 26 #[v, .slice a p.length cap] w fun e w' => e = .returned (.tuple #[.bool (pIsPlan m p).1, .bool (pIsPlan m p).2]) ∧ Below w.heap.size w w' := by
  have hM := hm
  obtain ⟨⟨ad, cd, ak, ck, rfl, hd, hk'⟩, nd, nk⟩ := hM
  cases g : worksB m
  · have HD : Hid (pIsPlan m p = (false, false)) := by show _ = _; simp [pIsPlan, g]
    go_enter Try.func26, Try.ntmps26
    go_wp2_with fail
    refine (isWorks_c _ m _ (hm.later (by (repeat (first | exact Below.refl _ _ | apply Below.drew | apply below_drewN | (refine Below.setCell ?_ (by first | omega | (simp; done) | (simp; omega) | (dsimp only; omega)) _) | (refine Below.alloc ?_ (by first | omega | (simp; done) | (simp; omega) | (dsimp only; omega)) _)))))).mono ?_
    rintro e w1 ⟨rfl, hb1⟩
    have HB1 : Hid (Below w.heap.size w w1) := below_then (by (repeat (first | exact Below.refl _ _ | apply Below.drew | apply below_drewN | (refine Below.setCell ?_ (by first | omega | (simp; done) | (simp; omega) | (dsimp only; omega)) _) | (refine Below.alloc ?_ (by first | omega | (simp; done) | (simp; omega) | (dsimp only; omega)) _)))) hb1
    rw [g]
    go_wp2_with fail
    go_ret2
    exact ⟨ret_tup2 (by rw [HD.out] <;> rfl), HB1.out⟩
  · have HD : Hid (pIsPlan m p = ((runP m p).2.2, true)) := by show _ = _; simp [pIsPlan, g]
    have OK := Lib.hid (worksB_true.1 g)
    go_enter Try.func26, Try.ntmps26
    go_wp2_with fail
    refine (isWorks_c _ m _ (hm.later (by (repeat (first | exact Below.refl _ _ | apply Below.drew | apply below_drewN | (refine Below.setCell ?_ (by first | omega | (simp; done) | (simp; omega) | (dsimp only; omega)) _) | (refine Below.alloc ?_ (by first | omega | (simp; done) | (simp; omega) | (dsimp only; omega)) _)))))).mono ?_
    rintro e w1 ⟨rfl, hb1⟩
    have HB1 : Hid (Below w.heap.size w w1) := below_then (by (repeat (first | exact Below.refl _ _ | apply Below.drew | apply below_drewN | (refine Below.setCell ?_ (by first | omega | (simp; done) | (simp; omega) | (dsimp only; omega)) _) | (refine Below.alloc ?_ (by first | omega | (simp; done) | (simp; omega) | (dsimp only; omega)) _)))) hb1
    obtain ⟨hc1, hf1, hz1⟩ := bcell3 hb1
    rw [g]
    go_wp2_with fail
    refine (runPlan_c _ m _ _ p _ (hm.later HB1.out) OK.out (hA.later HB1.out) hl).mono ?_
    rintro e w2 ⟨rfl, hb2⟩
    go_wp2
    go_ret2
    exact ⟨ret_tup2 (by rw [HD.out] <;> rfl), below_then HB1.out hb2⟩
end Go.Proofs.Ytmilpahggceemaa

namespace Go.KD
noncomputable def pRunPlan (m : Wk) (p : List Int) : Int × Int × Bool := if worksB m then runP m p else (0, 0, false)
end Go.KD
namespace Go.Proofs.Ytmilpahggceemaa
open Go.RowKit Go.KD
attribute [local go_sem] later_cell later_frozen
theorem specRunPlan_c (v : Value) (m : Wk) (a : Option Addr) (cap : Nat) (p : List Int) (w : World) (hm : WkAt w v m) (hA : IC w a p) (hl : p.length ≤ 1048576) (wl : ∀ y ∈ p, wfI y) :
    Calls Try.prog 25 #[v, .slice a p.length cap] w fun e w' => e = .returned (.tuple #[.int .i64 (pRunPlan m p).1, .int .i64 (pRunPlan m p).2.1, .bool (pRunPlan m p).2.2]) ∧ Below w.heap.size w w' := by
  have hM := hm
  obtain ⟨⟨ad, cd, ak, ck, rfl, hd, hk'⟩, nd, nk⟩ := hM
  cases g : worksB m
  · have HD : Hid (pRunPlan m p = (0, 0, false)) := by show _ = _; simp [pRunPlan, g]
    go_enter Try.func25, Try.ntmps25
    go_wp2_with fail
    refine (l8Works_c _ m _ (hm.later (by (repeat (first | exact Below.refl _ _ | apply Below.drew | apply below_drewN | (refine Below.setCell ?_ (by first | omega | (simp; done) | (simp; omega) | (dsimp only; omega)) _) | (refine Below.alloc ?_ (by first | omega | (simp; done) | (simp; omega) | (dsimp only; omega)) _)))))).mono ?_
    rintro e w1 ⟨rfl, hb1⟩
    have HB1 : Hid (Below w.heap.size w w1) := below_then (by (repeat (first | exact Below.refl _ _ | apply Below.drew | apply below_drewN | (refine Below.setCell ?_ (by first | omega | (simp; done) | (simp; omega) | (dsimp only; omega)) _) | (refine Below.alloc ?_ (by first | omega | (simp; done) | (simp; omega) | (dsimp only; omega)) _)))) hb1
    rw [g]
    go_wp2_with fail
    go_ret3
    exact ⟨ret_tup2 (by rw [HD.out] <;> rfl), HB1.out⟩
  · have HD : Hid (pRunPlan m p = runP m p) := by show _ = _; simp [pRunPlan, g]
    have OK := Lib.hid (worksB_true.1 g)
    go_enter Try.func25, Try.ntmps25
    go_wp2_with fail
    refine (l8Works_c _ m _ (hm.later (by (repeat (first | exact Below.refl _ _ | apply Below.drew | apply below_drewN | (refine Below.setCell ?_ (by first | omega | (simp; done) | (simp; omega) | (dsimp only; omega)) _) | (refine Below.alloc ?_ (by first | omega | (simp; done) | (simp; omega) | (dsimp only; omega)) _)))))).mono ?_
    rintro e w1 ⟨rfl, hb1⟩
    have HB1 : Hid (Below w.heap.size w w1) := below_then (by (repeat (first | exact Below.refl _ _ | apply Below.drew | apply below_drewN | (refine Below.setCell ?_ (by first | omega | (simp; done) | (simp; omega) | (dsimp only; omega)) _) | (refine Below.alloc ?_ (by first | omega | (simp; done) | (simp; omega) | (dsimp only; omega)) _)))) hb1
    obtain ⟨hc1, hf1, hz1⟩ := bcell3 hb1
    rw [g]
    go_wp2_with fail
    refine (l8Run_c _ m _ _ p _ (hm.later HB1.out) OK.out (hA.later HB1.out) hl).mono ?_
    rintro e w2 ⟨rfl, hb2⟩
    go_wp2
    go_ret3
    exact ⟨ret_tup2 (by rw [HD.out] <;> rfl), below_then HB1.out hb2⟩
theorem implRunPlan_c (v : Value) (m : Wk) (a : Option Addr) (cap : Nat) (p : List Int) (w : World) (hm : WkAt w v m) (hA : IC w a p) (hl : p.length ≤ 1048576) (wl : ∀ y ∈ p, wfI y) :
    Calls Try.prog 24 #[v, .slice a p.length cap] w fun e w' => e = .returned (.tuple #[.int .i64 (pRunPlan m p).1, .int .i64 (pRunPlan m p).2.1, .bool (pRunPlan m p).2.2]) ∧ Below w.heap.size w w' := by
  have hM := hm
  obtain ⟨⟨ad, cd, ak, ck, rfl, hd, hk'⟩, nd, nk⟩ := hM
  cases g : worksB m
  · have HD : Hid (pRunPlan m p = (0, 0, false)) := by show _ = _; simp [pRunPlan, g]
    go_enter Try.func24, Try.ntmps24
    go_wp2_with fail
    refine (isWorks_c _ m _ (hm.later (by (repeat (first | exact Below.refl _ _ | apply Below.drew | apply below_drewN | (refine Below.setCell ?_ (by first | omega | (simp; done) | (simp; omega) | (dsimp only; omega)) _) | (refine Below.alloc ?_ (by first | omega | (simp; done) | (simp; omega) | (dsimp only; omega)) _)))))).mono ?_
    rintro e w1 ⟨rfl, hb1⟩
    have HB1 : Hid (Below w.heap.size w w1) := below_then (by (repeat (first | exact Below.refl _ _ | apply Below.drew | apply below_drewN | (refine Below.setCell ?_ (by first | omega | (simp; done) | (simp; omega) | (dsimp only; omega)) _) | (refine Below.alloc ?_ (by first | omega | (simp; done) | (simp; omega) | (dsimp only; omega)) _)))) hb1
    rw [g]
    go_wp2_with fail
    go_ret3
    exact ⟨ret_tup2 (by rw [HD.out] <;> rfl), HB1.out⟩
  · have HD : Hid (pRunPlan m p = runP m p) := by show _ = _; simp [pRunPlan, g]
    have OK := Lib.hid (worksB_true.1 g)
    go_enter Try.func24, Try.ntmps24
    go_wp2_with fail
    refine (isWorks_c _ m _ (hm.later (by (repeat (first | exact Below.refl _ _ | apply Below.drew | apply below_drewN | (refine Below.setCell ?_ (by first | omega | (simp; done) | (simp; omega) | (dsimp only; omega)) _) | (refine Below.alloc ?_ (by first | omega | (simp; done) | (simp; omega) | (dsimp only; omega)) _)))))).mono ?_
    rintro e w1 ⟨rfl, hb1⟩
    have HB1 : Hid (Below w.heap.size w w1) := below_then (by (repeat (first | exact Below.refl _ _ | apply Below.drew | apply below_drewN | (refine Below.setCell ?_ (by first | omega | (simp; done) | (simp; omega) | (dsimp only; omega)) _) | (refine Below.alloc ?_ (by first | omega | (simp; done) | (simp; omega) | (dsimp only; omega)) _)))) hb1
    obtain ⟨hc1, hf1, hz1⟩ := bcell3 hb1
    rw [g]
    go_wp2_with fail
    refine (runPlan_c _ m _ _ p _ (hm.later HB1.out) OK.out (hA.later HB1.out) hl).mono ?_
    rintro e w2 ⟨rfl, hb2⟩
    go_wp2
    go_ret3
    exact ⟨ret_tup2 (by rw [HD.out] <;> rfl), below_then HB1.out hb2⟩
end Go.Proofs.Ytmilpahggceemaa

namespace Go.KD
open Go.RowKit
def mkMz (m : Mz) (k : Int) : Mz := ⟨m.size, marks3 m.doors.length k, marks m.keys.length (k + (m.doors.length : Int) * 3)⟩
def mkWk (m : Wk) (k : Int) : Wk := ⟨m.size, marks4 m.gates.length k, marks m.pulls.length (k + (m.gates.length : Int) * 4)⟩
theorem MzOwn.chg {lo hi lo' hi' : Nat} {w w' : World} {v : Value} {m : Mz} (h : MzOwn lo hi w v m) (hc : Chg lo' hi' w w') (hd : hi ≤ lo' ∨ hi' ≤ lo) : MzOwn lo hi w' v m := by
  obtain ⟨e3, e1, vd, vk, hv, o1, o2, h4⟩ := h
  exact ⟨e3, e1, vd, vk, hv, o1.chg hc hd, o2.chg hc hd, h4⟩
theorem WkOwn.chg {lo hi lo' hi' : Nat} {w w' : World} {v : Value} {m : Wk} (h : WkOwn lo hi w v m) (hc : Chg lo' hi' w w') (hd : hi ≤ lo' ∨ hi' ≤ lo) : WkOwn lo hi w' v m := by
  obtain ⟨e3, e1, vd, vk, hv, o1, o2, h4⟩ := h
  exact ⟨e3, e1, vd, vk, hv, o1.chg hc hd, o2.chg hc hd, h4⟩
end Go.KD
namespace Go.Proofs.Ytmilpahggceemaa
open Go.RowKit Go.KD
attribute [local go_sem] later_cell later_frozen

end Go.Proofs.Ytmilpahggceemaa
namespace Go.KD
open Go.RowKit
theorem own_nilT (lo hi : Nat) (W : World) : WkOwn lo hi W (.agg #[.int .i64 0, .slice none 0 0, .slice none 0 0]) ⟨0, [], []⟩ :=
  ⟨0, 0, .slice none 0 0, .slice none 0 0, rfl, ⟨⟨rfl, .inl ⟨rfl, rfl⟩⟩, fun g hg => by cases hg⟩, ⟨⟨rfl, .inl ⟨rfl, rfl⟩⟩, fun g hg => by cases hg⟩, fun g hg => by cases hg⟩
/-- The world of impl.TurnLevers behind its copies. -/
structure TL3 (W : World) (e4 e1 : TypeId) (n bO lo2 hi2 lo3 hi3 ng np cd ck c2 c3 : Nat) (sz : Int) (ad ak a2 a3 : Option Addr) (G : List D4) (Pl : List Int) : Prop where
  six : Six W n (.int .i64 sz) (.slice ad ng cd) (.slice ak np ck) (.int .i64 0) (.slice none 0 0) (.slice none 0 0)
  o0 : W.cell? ⟨bO, 0, none⟩ = some (.int .i64 sz)
  o1 : W.cell? ⟨bO, 1, none⟩ = some (.slice a2 ng c2)
  o2 : W.cell? ⟨bO, 2, none⟩ = some (.slice a3 np c3)
  ob : bO < W.heap.size
  g : Own lo2 hi2 W e4 4 (.slice a2 ng c2) ng (c4 G)
  p : Own lo3 hi3 W e1 1 (.slice a3 np c3) np (ints Pl)
  gl : G.length = ng
  h2 : hi2 ≤ lo3
  h3 : hi3 ≤ W.heap.size
  h23 : lo3 ≤ hi3
  l2 : n + 2 ≤ lo2
  lb : n + 2 ≤ bO
  bd : (bO < lo2 ∨ hi2 ≤ bO) ∧ (bO < lo3 ∨ hi3 ≤ bO)
  l3 : n + 2 ≤ lo3
theorem TL3.later {W W' : World} {e4 e1 : TypeId} {n bO lo2 hi2 lo3 hi3 ng np cd ck c2 c3 : Nat} {sz : Int} {ad ak a2 a3 : Option Addr} {G : List D4} {Pl : List Int} (h : TL3 W e4 e1 n bO lo2 hi2 lo3 hi3 ng np cd ck c2 c3 sz ad ak a2 a3 G Pl) (hb : Below W.heap.size W W') : TL3 W' e4 e1 n bO lo2 hi2 lo3 hi3 ng np cd ck c2 c3 sz ad ak a2 a3 G Pl := by
  have h1 := h.h2
  have h2 := h.h3
  have h3 := h.h23
  have hz := hb.size
  exact ⟨h.six.later hb, (hb.cell (p := ⟨bO, 0, none⟩) h.ob).trans h.o0, (hb.cell (p := ⟨bO, 1, none⟩) h.ob).trans h.o1, (hb.cell (p := ⟨bO, 2, none⟩) h.ob).trans h.o2, Nat.lt_of_lt_of_le h.ob hz, h.g.later hb (by omega), h.p.later hb h2, h.gl, h1, by omega, h3, h.l2, h.lb, h.bd, h.l3⟩
theorem TL3.row {W W' : World} {e4 e1 : TypeId} {n bO lo2 hi2 lo3 hi3 ng np cd ck c2 c3 : Nat} {sz : Int} {ad ak a2 a3 : Option Addr} {G G' : List D4} {Pl : List Int} (h : TL3 W e4 e1 n bO lo2 hi2 lo3 hi3 ng np cd ck c2 c3 sz ad ak a2 a3 G Pl) (hc : Chg lo2 hi2 W W') (hg : Own lo2 hi2 W' e4 4 (.slice a2 ng c2) ng (c4 G')) (hl : G'.length = ng) : TL3 W' e4 e1 n bO lo2 hi2 lo3 hi3 ng np cd ck c2 c3 sz ad ak a2 a3 G' Pl := by
  have h1 := h.h2
  have h2 := h.h3
  have h3 := h.h23
  have hz := hc.size
  have hl2 := h.l2
  have hs := h.six.sz
  refine ⟨?_, (hc.cell (p := ⟨bO, 0, none⟩) h.ob h.bd.1).trans h.o0, (hc.cell (p := ⟨bO, 1, none⟩) h.ob h.bd.1).trans h.o1, (hc.cell (p := ⟨bO, 2, none⟩) h.ob h.bd.1).trans h.o2, Nat.lt_of_lt_of_le h.ob hz, hg, h.p.chg hc (.inr h1), hl, h1, by omega, h3, hl2, h.lb, h.bd, h.l3⟩
  have c : ∀ b o, b < n + 2 → W'.cell? ⟨b, o, none⟩ = W.cell? ⟨b, o, none⟩ := fun b o hb => hc.cell (p := ⟨b, o, none⟩) (by show b < _; omega) (.inl (by show b < _; omega))
  have f : ∀ b o, b < n + 2 → W'.frozen? ⟨b, o, none⟩ = W.frozen? ⟨b, o, none⟩ := fun b o hb => World.frozen?_of_block (w := W) (hc.block b (by omega) (.inl (by omega)))
  exact ⟨(c _ _ (by omega)).trans h.six.a, (c _ _ (by omega)).trans h.six.b, (c _ _ (by omega)).trans h.six.c, (c _ _ (by omega)).trans h.six.x, (c _ _ (by omega)).trans h.six.y, (c _ _ (by omega)).trans h.six.z, (f _ _ (by omega)).trans h.six.fx, (f _ _ (by omega)).trans h.six.fy, (f _ _ (by omega)).trans h.six.fz, by omega⟩
theorem TL3.new {W : World} {e4 e1 T : TypeId} {n lo2 hi2 lo3 hi3 ng np cd ck c2 c3 : Nat} {sz : Int} {ad ak a2 a3 : Option Addr} {G : List D4} {Pl : List Int} (hs : Six W n (.int .i64 sz) (.slice ad ng cd) (.slice ak np ck) (.int .i64 0) (.slice none 0 0) (.slice none 0 0)) (hg : Own lo2 hi2 W e4 4 (.slice a2 ng c2) ng (c4 G)) (hp : Own lo3 hi3 W e1 1 (.slice a3 np c3) np (ints Pl)) (gl : G.length = ng) (h2 : hi2 ≤ lo3) (h3 : hi3 ≤ W.heap.size) (h23 : lo3 ≤ hi3) (l2 : n + 2 ≤ lo2) (l3 : n + 2 ≤ lo3) :
    TL3 (W.alloc (.cells #[.int .i64 sz, .slice a2 ng c2, .slice a3 np c3] T)) e4 e1 n W.heap.size lo2 hi2 lo3 hi3 ng np cd ck c2 c3 sz ad ak a2 a3 G Pl := by
  have hb : Below W.heap.size W (W.alloc (.cells #[.int .i64 sz, .slice a2 ng c2, .slice a3 np c3] T)) := (Below.refl _ _).alloc (Nat.le_refl _) _
  have hsz := hs.sz
  exact ⟨hs.later hb, by simp [go_sem], by simp [go_sem], by simp [go_sem], by simp, hg.later hb (by omega), hp.later hb h3, gl, h2, by simp; omega, h23, l2, by omega, ⟨.inr (by omega), .inr (by omega)⟩, l3⟩
theorem TL3.set {W : World} {e4 e1 : TypeId} {n bO lo2 hi2 lo3 hi3 ng np cd ck c2 c3 : Nat} {sz : Int} {ad ak a2 a3 : Option Addr} {G : List D4} {Pl : List Int} (hs : Six W n (.int .i64 sz) (.slice ad ng cd) (.slice ak np ck) (.int .i64 0) (.slice none 0 0) (.slice none 0 0)) (hg : Own lo2 hi2 W e4 4 (.slice a2 ng c2) ng (c4 G)) (hp : Own lo3 hi3 W e1 1 (.slice a3 np c3) np (ints Pl)) (gl : G.length = ng) (h2 : hi2 ≤ lo3) (h3 : hi3 ≤ W.heap.size) (h23 : lo3 ≤ hi3) (l2 : n + 2 ≤ lo2) (l3 : n + 2 ≤ lo3)
    (ob : bO < W.heap.size) (lb : n + 2 ≤ bO) (bd : (bO < lo2 ∨ hi2 ≤ bO) ∧ (bO < lo3 ∨ hi3 ≤ bO)) {x y z : Value} (t0 : W.cell? ⟨bO, 0, none⟩ = some x) (t1 : W.cell? ⟨bO, 1, none⟩ = some y) (t2 : W.cell? ⟨bO, 2, none⟩ = some z) :
    TL3 (((W.setCell ⟨bO, 0, none⟩ (.int .i64 sz)).setCell ⟨bO, 1, none⟩ (.slice a2 ng c2)).setCell ⟨bO, 2, none⟩ (.slice a3 np c3)) e4 e1 n bO lo2 hi2 lo3 hi3 ng np cd ck c2 c3 sz ad ak a2 a3 G Pl := by
  have k1 : Chg bO (bO + 1) W (W.setCell ⟨bO, 0, none⟩ (.int .i64 sz)) := Chg.of_grown (grown_setCell W ⟨bO, 0, none⟩ _) (fun g hg => by cases hg; exact ⟨Nat.le_refl _, Nat.lt_succ_self _⟩)
  have k2 : Chg bO (bO + 1) (W.setCell ⟨bO, 0, none⟩ (.int .i64 sz)) ((W.setCell ⟨bO, 0, none⟩ (.int .i64 sz)).setCell ⟨bO, 1, none⟩ (.slice a2 ng c2)) := Chg.of_grown (grown_setCell _ ⟨bO, 1, none⟩ _) (fun g hg => by cases hg; exact ⟨Nat.le_refl _, Nat.lt_succ_self _⟩)
  have k3 : Chg bO (bO + 1) ((W.setCell ⟨bO, 0, none⟩ (.int .i64 sz)).setCell ⟨bO, 1, none⟩ (.slice a2 ng c2)) (((W.setCell ⟨bO, 0, none⟩ (.int .i64 sz)).setCell ⟨bO, 1, none⟩ (.slice a2 ng c2)).setCell ⟨bO, 2, none⟩ (.slice a3 np c3)) := Chg.of_grown (grown_setCell _ ⟨bO, 2, none⟩ _) (fun g hg => by cases hg; exact ⟨Nat.le_refl _, Nat.lt_succ_self _⟩)
  have hc := (k1.trans k2).trans k3
  have hz : (((W.setCell ⟨bO, 0, none⟩ (.int .i64 sz)).setCell ⟨bO, 1, none⟩ (.slice a2 ng c2)).setCell ⟨bO, 2, none⟩ (.slice a3 np c3)).heap.size = W.heap.size := by simp
  have hs0 := hs.sz
  have o0 : (((W.setCell ⟨bO, 0, none⟩ (.int .i64 sz)).setCell ⟨bO, 1, none⟩ (.slice a2 ng c2)).setCell ⟨bO, 2, none⟩ (.slice a3 np c3)).cell? ⟨bO, 0, none⟩ = some (.int .i64 sz) := by
    rw [World.cell?_setCell_other _ _ _ _ (by simp), World.cell?_setCell_other _ _ _ _ (by simp), World.cell?_setCell_same' _ _ _ (by rw [t0]; rfl)]
  have o1 : (((W.setCell ⟨bO, 0, none⟩ (.int .i64 sz)).setCell ⟨bO, 1, none⟩ (.slice a2 ng c2)).setCell ⟨bO, 2, none⟩ (.slice a3 np c3)).cell? ⟨bO, 1, none⟩ = some (.slice a2 ng c2) := by
    rw [World.cell?_setCell_other _ _ _ _ (by simp), World.cell?_setCell_same' _ _ _ (by rw [World.cell?_setCell_other _ _ _ _ (by simp), t1]; rfl)]
  have o2 : (((W.setCell ⟨bO, 0, none⟩ (.int .i64 sz)).setCell ⟨bO, 1, none⟩ (.slice a2 ng c2)).setCell ⟨bO, 2, none⟩ (.slice a3 np c3)).cell? ⟨bO, 2, none⟩ = some (.slice a3 np c3) := by
    rw [World.cell?_setCell_same' _ _ _ (by rw [World.cell?_setCell_other _ _ _ _ (by simp), World.cell?_setCell_other _ _ _ _ (by simp), t2]; rfl)]
  obtain ⟨W', hW'⟩ : ∃ W', W' = ((W.setCell ⟨bO, 0, none⟩ (.int .i64 sz)).setCell ⟨bO, 1, none⟩ (.slice a2 ng c2)).setCell ⟨bO, 2, none⟩ (.slice a3 np c3) := ⟨_, rfl⟩
  rw [← hW'] at hc hz o0 o1 o2 ⊢
  have c : ∀ b o, b < n + 2 → W'.cell? ⟨b, o, none⟩ = W.cell? ⟨b, o, none⟩ := fun b o hb => hc.cell (p := ⟨b, o, none⟩) (by show b < _; omega) (.inl (by show b < _; omega))
  have f : ∀ b o, b < n + 2 → W'.frozen? ⟨b, o, none⟩ = W.frozen? ⟨b, o, none⟩ := fun b o hb => World.frozen?_of_block (w := W) (hc.block b (by omega) (.inl (by omega)))
  exact ⟨⟨(c _ _ (by omega)).trans hs.a, (c _ _ (by omega)).trans hs.b, (c _ _ (by omega)).trans hs.c, (c _ _ (by omega)).trans hs.x, (c _ _ (by omega)).trans hs.y, (c _ _ (by omega)).trans hs.z, (f _ _ (by omega)).trans hs.fx, (f _ _ (by omega)).trans hs.fy, (f _ _ (by omega)).trans hs.fz, by omega⟩, o0, o1, o2, by omega, hg.chg hc (by have := bd.1; omega), hp.chg hc (by have := bd.2; omega), gl, h2, by omega, h23, l2, lb, bd, l3⟩
def turnP (l : Int) (gs : List D4) (k : Nat) : List D4 := (gs.take k).map (turnG l) ++ gs.drop k
theorem turnP_len {l : Int} {gs : List D4} {k : Nat} (hk : k ≤ gs.length) : (turnP l gs k).length = gs.length := by unfold turnP; simp; omega
theorem turnP_at {l : Int} {gs : List D4} {k : Nat} (hk : k < gs.length) : (turnP l gs k)[k]! = gs[k]! := by
  unfold turnP
  rw [getElem!_pos _ k (by simp; omega), List.getElem_append_right (by simp; omega), getElem!_pos gs k hk]
  simp [Nat.min_eq_left (Nat.le_of_lt hk)]
theorem turnP_step {l : Int} {gs : List D4} {k : Nat} (hk : k < gs.length) : turnP l gs (k + 1) = (turnP l gs k).set k (turnG l gs[k]!) := by
  unfold turnP
  rw [take_snoc hk, List.map_append, List.set_append_right _ _ (by simp; omega)]
  rw [List.drop_eq_getElem_cons hk]
  have e : k - ((gs.take k).map (turnG l)).length = 0 := by simp; omega
  rw [e, List.set_cons_zero, List.append_assoc]; rfl
theorem turnP_all {l : Int} {gs : List D4} : turnP l gs gs.length = gs.map (turnG l) := by simp [turnP]
theorem c4_set3 {L : List D4} {k : Nat} (hk : k < L.length) (v : Int) : (c4 L).set (k * 4 + 3) (.int .i64 v) = c4 (L.set k ((L[k]!).1, (L[k]!).2.1, (L[k]!).2.2.1, v)) := by
  apply List.ext_getElem?
  intro j
  by_cases hj : j < L.length * 4
  · rw [get_c4Q _ j (by rw [List.length_set]; exact hj), List.getElem?_set]
    by_cases e : k * 4 + 3 = j
    · subst e
      rw [if_pos rfl, if_pos (by rw [length_c4]; exact hj), show (k * 4 + 3) / 4 = k by omega, show (k * 4 + 3) % 4 = 3 by omega, getElem!_pos _ k (by rw [List.length_set]; exact hk), List.getElem_set_self]; rfl
    · rw [if_neg e, get_c4Q _ j hj]
      by_cases e2 : j / 4 = k
      · subst e2
        rw [getElem!_pos (L.set _ _) _ (by rw [List.length_set]; exact hk), List.getElem_set_self]
        have h4 : j % 4 = 0 ∨ j % 4 = 1 ∨ j % 4 = 2 := by omega
        rcases h4 with h | h | h <;> rw [h] <;> rfl
      · rw [getElem!_pos (L.set _ _) _ (by rw [List.length_set]; omega), List.getElem_set_ne (fun h => e2 h.symm), getElem!_pos L _ (by omega)]
  · rw [List.getElem?_eq_none (by rw [List.length_set, length_c4]; omega), List.getElem?_eq_none (by rw [length_c4, List.length_set]; omega)]
end Go.KD
namespace Go.Proofs.Ytmilpahggceemaa
open Go.RowKit Go.KD
attribute [local go_sem] later_cell later_frozen
set_option maxRecDepth 100000 in
set_option maxHeartbeats 8000000 in
theorem implTurnLevers_c (v : Value) (m : Wk) (l : Int) (w : World) (R : Wk) (b : Bool) (hp : pTurnLevers m l = (R, b)) (hm : WkAt w v m) (wl : wfI l) :
    Calls Try.prog 32 #[v, .int .i64 l] w fun e w' => ∃ u, e = .returned (.tuple #[u, .bool b]) ∧ WkOwn w.heap.size w'.heap.size w' u R ∧ Below w.heap.size w w' := by
  have hM := hm
  obtain ⟨⟨ad, cd, ak, ck, rfl, hd, hk'⟩, nd, nk⟩ := hM
  have H6 : Six ((w.alloc (.cells #[.int .i64 m.size, .slice ad m.gates.length cd, .slice ak m.pulls.length ck] 36)).alloc (.cells #[.int .i64 0, .slice none 0 0, .slice none 0 0] 36)) w.heap.size (.int .i64 m.size) (.slice ad m.gates.length cd) (.slice ak m.pulls.length ck) (.int .i64 0) (.slice none 0 0) (.slice none 0 0) := ⟨by simp [go_sem], by simp [go_sem], by simp [go_sem], by simp [go_sem], by simp [go_sem], by simp [go_sem], by simp [go_sem], by simp [go_sem], by simp [go_sem], by simp⟩
  have HB0 : Hid (Below w.heap.size w ((w.alloc (.cells #[.int .i64 m.size, .slice ad m.gates.length cd, .slice ak m.pulls.length ck] 36)).alloc (.cells #[.int .i64 0, .slice none 0 0, .slice none 0 0] 36))) := ((Below.refl _ _).alloc (Nat.le_refl _) _).alloc (by simp) _
  have HS6 : Hid (∀ W, Below ((w.alloc (.cells #[.int .i64 m.size, .slice ad m.gates.length cd, .slice ak m.pulls.length ck] 36)).alloc (.cells #[.int .i64 0, .slice none 0 0, .slice none 0 0] 36)).heap.size ((w.alloc (.cells #[.int .i64 m.size, .slice ad m.gates.length cd, .slice ak m.pulls.length ck] 36)).alloc (.cells #[.int .i64 0, .slice none 0 0, .slice none 0 0] 36)) W → Six W w.heap.size (.int .i64 m.size) (.slice ad m.gates.length cd) (.slice ak m.pulls.length ck) (.int .i64 0) (.slice none 0 0) (.slice none 0 0)) := fun W hW => H6.later hW
  clear H6
  cases g1 : worksB m
  case false =>
    have hp' : pTurnLevers m l = (⟨0, [], []⟩, false) := by simp [pTurnLevers, g1]
    rw [hp'] at hp
    cases hp
    clear hp'
    go_enter Try.func32, Try.ntmps32
    go_wp2_with (go_at_call 52; refine (isWorks_c _ m _ (hm.later HB0.out)).mono ?_; rintro e w1 ⟨rfl, hb1⟩; have HB1 : Hid (Below w.heap.size w w1) := below_then HB0.out hb1; obtain ⟨s0, s1, s2, s3, s4, s5, s6, s7, s8, s9⟩ := HS6.out w1 hb1; rw [g1])
    refine bodyPost_ret (v := .tuple #[.agg #[.int .i64 0, .slice none 0 0, .slice none 0 0], .bool false]) (by simp [results, Try.results32, go_sem, *]) rfl ?_
    exact ⟨_, rfl, own_nilT _ _ _, by repeat (first | exact HB1.out | refine Below.setCell ?_ (by show w.heap.size ≤ w.heap.size + 1; omega) _)⟩
  cases g2 : setB l
  case false =>
    have hp' : pTurnLevers m l = (⟨0, [], []⟩, false) := by simp [pTurnLevers, g2]
    rw [hp'] at hp
    cases hp
    clear hp'
    go_enter Try.func32, Try.ntmps32
    go_wp2_with (first
      | (go_at_call 52; refine (isWorks_c _ m _ (hm.later HB0.out)).mono ?_; rintro e w1 ⟨rfl, hb1⟩; have HB1 : Hid (Below w.heap.size w w1) := below_then HB0.out hb1; obtain ⟨s0, s1, s2, s3, s4, s5, s6, s7, s8, s9⟩ := HS6.out w1 hb1; rw [g1])
      | (go_at_call 137; refine (isSet_c _ _).mono ?_; rintro e w2 ⟨rfl, rfl⟩; rw [g2]))
    refine bodyPost_ret (v := .tuple #[.agg #[.int .i64 0, .slice none 0 0, .slice none 0 0], .bool false]) (by simp [results, Try.results32, go_sem, *]) rfl ?_
    exact ⟨_, rfl, own_nilT _ _ _, by repeat (first | exact HB1.out | refine Below.setCell ?_ (by show w.heap.size ≤ w.heap.size + 1; omega) _)⟩
  have ok := worksB_true.1 g1
  obtain ⟨l0, l64⟩ : 0 ≤ l ∧ l < 64 := by have := setB_true.1 g2; omega
  obtain ⟨ln, rfl⟩ := Int.eq_ofNat_of_zero_le l0
  have hp' : pTurnLevers m (ln : Int) = (⟨m.size, turnL ln m.gates, m.pulls⟩, true) := by simp [pTurnLevers, g1, g2]
  rw [hp'] at hp
  cases hp
  clear hp'
  go_enter Try.func32, Try.ntmps32
  go_upto_region 3 with (first
    | (go_at_call 52; refine (isWorks_c _ m _ (hm.later HB0.out)).mono ?_; rintro e w1 ⟨rfl, hb1⟩; have HB1 : Hid (Below w.heap.size w w1) := below_then HB0.out hb1; have H61 := Lib.hid (HS6.out w1 hb1); obtain ⟨s0, s1, s2, s3, s4, s5, s6, s7, s8, s9⟩ := HS6.out w1 hb1; rw [g1])
    | (go_at_call 137; refine (isSet_c _ _).mono ?_; rintro e w2 ⟨rfl, rfl⟩; rw [g2]))
  have hz1 := HB1.out.size
  clear s0 s1 s2 s3 s4 s5 s6 s7 s8 s9
  obtain ⟨q0, q1, q2, q3, q4, q5, q6, q7, q8, q9⟩ := H61.out
  go_cut [6] (fun s6 wx => ∃ (bO lo2 hi2 lo3 hi3 c2 c3 : Nat) (a2 a3 : Option Addr), s6 = .pointer (some ⟨bO, 0, none⟩) ∧ Hid (TL3 wx 54 3 w.heap.size bO lo2 hi2 lo3 hi3 m.gates.length m.pulls.length cd ck c2 c3 m.size ad ak a2 a3 m.gates m.pulls) ∧ Hid (Below w.heap.size w wx))
  case first =>
    go_region_held3 (fun W => W.cell? ⟨w.heap.size, 0, none⟩ = some (.int .i64 m.size) ∧ W.cell? ⟨w.heap.size, 1, none⟩ = some (.slice ad m.gates.length cd) ∧ W.cell? ⟨w.heap.size, 2, none⟩ = some (.slice ak m.pulls.length ck))
      (first | exact ⟨q0, q1, q2⟩ | exact ⟨r0, r1, r2⟩ | exact ⟨s0, s1, s2⟩ | (refine ⟨?_, ?_, ?_⟩ <;> (repeat rw [World.cell?_setCell_other _ _ _ _ (by intro h; have := congrArg Addr.block h; dsimp only at this; omega)]) <;> first | exact s0 | exact s1 | exact s2) | exact ⟨(H63.out.later (by (repeat (first | exact Below.refl _ _ | apply Below.drew | apply below_drewN | (refine Below.setCell ?_ (by first | omega | (simp; done) | (simp; omega) | (dsimp only; omega)) _) | (refine Below.alloc ?_ (by first | omega | (simp; done) | (simp; omega) | (dsimp only; omega)) _))))).a, (H63.out.later (by (repeat (first | exact Below.refl _ _ | apply Below.drew | apply below_drewN | (refine Below.setCell ?_ (by first | omega | (simp; done) | (simp; omega) | (dsimp only; omega)) _) | (refine Below.alloc ?_ (by first | omega | (simp; done) | (simp; omega) | (dsimp only; omega)) _))))).b, (H63.out.later (by (repeat (first | exact Below.refl _ _ | apply Below.drew | apply below_drewN | (refine Below.setCell ?_ (by first | omega | (simp; done) | (simp; omega) | (dsimp only; omega)) _) | (refine Below.alloc ?_ (by first | omega | (simp; done) | (simp; omega) | (dsimp only; omega)) _))))).c⟩ | exact ⟨(H62.out.later (by (repeat (first | exact Below.refl _ _ | apply Below.drew | apply below_drewN | (refine Below.setCell ?_ (by first | omega | (simp; done) | (simp; omega) | (dsimp only; omega)) _) | (refine Below.alloc ?_ (by first | omega | (simp; done) | (simp; omega) | (dsimp only; omega)) _))))).a, (H62.out.later (by (repeat (first | exact Below.refl _ _ | apply Below.drew | apply below_drewN | (refine Below.setCell ?_ (by first | omega | (simp; done) | (simp; omega) | (dsimp only; omega)) _) | (refine Below.alloc ?_ (by first | omega | (simp; done) | (simp; omega) | (dsimp only; omega)) _))))).b, (H62.out.later (by (repeat (first | exact Below.refl _ _ | apply Below.drew | apply below_drewN | (refine Below.setCell ?_ (by first | omega | (simp; done) | (simp; omega) | (dsimp only; omega)) _) | (refine Below.alloc ?_ (by first | omega | (simp; done) | (simp; omega) | (dsimp only; omega)) _))))).c⟩ | exact ⟨(H61.out.later (by (repeat (first | exact Below.refl _ _ | apply Below.drew | apply below_drewN | (refine Below.setCell ?_ (by first | omega | (simp; done) | (simp; omega) | (dsimp only; omega)) _) | (refine Below.alloc ?_ (by first | omega | (simp; done) | (simp; omega) | (dsimp only; omega)) _))))).a, (H61.out.later (by (repeat (first | exact Below.refl _ _ | apply Below.drew | apply below_drewN | (refine Below.setCell ?_ (by first | omega | (simp; done) | (simp; omega) | (dsimp only; omega)) _) | (refine Below.alloc ?_ (by first | omega | (simp; done) | (simp; omega) | (dsimp only; omega)) _))))).b, (H61.out.later (by (repeat (first | exact Below.refl _ _ | apply Below.drew | apply below_drewN | (refine Below.setCell ?_ (by first | omega | (simp; done) | (simp; omega) | (dsimp only; omega)) _) | (refine Below.alloc ?_ (by first | omega | (simp; done) | (simp; omega) | (dsimp only; omega)) _))))).c⟩)
      (first | (go_at_call 149; refine (cloneG_c _ _ _ m.gates _ rfl (hd.later (HB1.out.trans (by (repeat (first | exact Below.refl _ _ | apply Below.drew | apply below_drewN | (refine Below.setCell ?_ (by first | omega | (simp; done) | (simp; omega) | (dsimp only; omega)) _) | (refine Below.alloc ?_ (by first | omega | (simp; done) | (simp; omega) | (dsimp only; omega)) _)))))) nd).mono ?_; rintro e w2 ⟨v2, rfl, ho2, hb2⟩; obtain ⟨a2, c2, rfl⟩ := own_slice ho2; have HO2 := Lib.hid (Own.of ho2); clear ho2; have B2 : Hid (Below w1.heap.size w1 w2) := below_then (by (repeat (first | exact Below.refl _ _ | apply Below.drew | apply below_drewN | (refine Below.setCell ?_ (by first | omega | (simp; done) | (simp; omega) | (dsimp only; omega)) _) | (refine Below.alloc ?_ (by first | omega | (simp; done) | (simp; omega) | (dsimp only; omega)) _)))) hb2; have hz2 := hb2.size; have hzz2 := B2.out.size; have H62 := Lib.hid (H61.out.later B2.out); (try (have t0 : w2.cell? ⟨w1.heap.size, 0, none⟩ = some (.int .i64 0) := (hb2.cell (p := ⟨w1.heap.size, 0, none⟩) (by simp)).trans (by simp [go_sem]); have tf0 : w2.frozen? ⟨w1.heap.size, 0, none⟩ = false := (hb2.frozen (p := ⟨w1.heap.size, 0, none⟩) (by simp)).trans (by simp [go_sem]); have t1 : w2.cell? ⟨w1.heap.size, 1, none⟩ = some (.slice none 0 0) := (hb2.cell (p := ⟨w1.heap.size, 1, none⟩) (by simp)).trans (by simp [go_sem]); have tf1 : w2.frozen? ⟨w1.heap.size, 1, none⟩ = false := (hb2.frozen (p := ⟨w1.heap.size, 1, none⟩) (by simp)).trans (by simp [go_sem]); have t2 : w2.cell? ⟨w1.heap.size, 2, none⟩ = some (.slice none 0 0) := (hb2.cell (p := ⟨w1.heap.size, 2, none⟩) (by simp)).trans (by simp [go_sem]); have tf2 : w2.frozen? ⟨w1.heap.size, 2, none⟩ = false := (hb2.frozen (p := ⟨w1.heap.size, 2, none⟩) (by simp)).trans (by simp [go_sem]); have tz : w1.heap.size < w2.heap.size := by have := hb2.size; simp at this; omega)); clear hb2; obtain ⟨r0, r1, r2, r3, r4, r5, r6, r7, r8, r9⟩ := H62.out) | (go_at_call 150; refine (clone_c _ _ _ m.pulls _ rfl (hk'.later ((HB1.out.trans (B2.out.mono hz1)).trans (by (repeat (first | exact Below.refl _ _ | apply Below.drew | apply below_drewN | (refine Below.setCell ?_ (by first | omega | (simp; done) | (simp; omega) | (dsimp only; omega)) _) | (refine Below.alloc ?_ (by first | omega | (simp; done) | (simp; omega) | (dsimp only; omega)) _)))))) nk).mono ?_; rintro e w3 ⟨v3, rfl, ho3, hb3⟩; obtain ⟨a3, c3, rfl⟩ := own_slice ho3; have HO3 := Lib.hid (Own.of ho3); clear ho3; have B3 : Hid (Below w2.heap.size w2 w3) := below_then (by (repeat (first | exact Below.refl _ _ | apply Below.drew | apply below_drewN | (refine Below.setCell ?_ (by first | omega | (simp; done) | (simp; omega) | (dsimp only; omega)) _) | (refine Below.alloc ?_ (by first | omega | (simp; done) | (simp; omega) | (dsimp only; omega)) _)))) hb3; have hz3 := hb3.size; have hzz3 := B3.out.size; have H63 := Lib.hid (H62.out.later B3.out); have HB3 := Lib.hid hb3; (try (have u0 : w3.cell? ⟨w2.heap.size, 0, none⟩ = some (.int .i64 0) := (hb3.cell (p := ⟨w2.heap.size, 0, none⟩) (by simp)).trans (by simp [go_sem]); have uf0 : w3.frozen? ⟨w2.heap.size, 0, none⟩ = false := (hb3.frozen (p := ⟨w2.heap.size, 0, none⟩) (by simp)).trans (by simp [go_sem]); have u1 : w3.cell? ⟨w2.heap.size, 1, none⟩ = some (.slice none 0 0) := (hb3.cell (p := ⟨w2.heap.size, 1, none⟩) (by simp)).trans (by simp [go_sem]); have uf1 : w3.frozen? ⟨w2.heap.size, 1, none⟩ = false := (hb3.frozen (p := ⟨w2.heap.size, 1, none⟩) (by simp)).trans (by simp [go_sem]); have u2 : w3.cell? ⟨w2.heap.size, 2, none⟩ = some (.slice none 0 0) := (hb3.cell (p := ⟨w2.heap.size, 2, none⟩) (by simp)).trans (by simp [go_sem]); have uf2 : w3.frozen? ⟨w2.heap.size, 2, none⟩ = false := (hb3.frozen (p := ⟨w2.heap.size, 2, none⟩) (by simp)).trans (by simp [go_sem]); have uz : w2.heap.size < w3.heap.size := by have := hb3.size; simp at this; omega)); (try (have u0 := (hb3.cell (p := ⟨w1.heap.size, 0, none⟩) (Nat.lt_of_lt_of_le tz (by simp))).trans t0; have uf0 := (hb3.frozen (p := ⟨w1.heap.size, 0, none⟩) (Nat.lt_of_lt_of_le tz (by simp))).trans tf0; have u1 := (hb3.cell (p := ⟨w1.heap.size, 1, none⟩) (Nat.lt_of_lt_of_le tz (by simp))).trans t1; have uf1 := (hb3.frozen (p := ⟨w1.heap.size, 1, none⟩) (Nat.lt_of_lt_of_le tz (by simp))).trans tf1; have u2 := (hb3.cell (p := ⟨w1.heap.size, 2, none⟩) (Nat.lt_of_lt_of_le tz (by simp))).trans t2; have uf2 := (hb3.frozen (p := ⟨w1.heap.size, 2, none⟩) (Nat.lt_of_lt_of_le tz (by simp))).trans tf2; have uz : w1.heap.size < w3.heap.size := by omega)); clear hb3; obtain ⟨s0, s1, s2, s3, s4, s5, s6, s7, s8, s9⟩ := H63.out))
    all_goals
      go_wp2_with fail
      go_meet
    case rel =>
      have h1 : w.heap.size + 1 < w1.heap.size := H61.out.sz
      have hB3 : Below w.heap.size w w3 := (HB1.out.trans (B2.out.mono hz1)).trans (B3.out.mono (by omega))
      exact ⟨w3.heap.size, w1.drew.heap.size, w2.heap.size, w2.heap.size, w3.heap.size, c2, c3, a2, a3, rfl, TL3.new H63.out (HO2.out.later B3.out (Nat.le_refl _)) HO3.out rfl (Nat.le_refl _) (Nat.le_refl _) hzz3 (by show _ ≤ w1.heap.size; omega) (by omega), hB3.alloc hB3.size _⟩
    case rel =>
      have h1 : w.heap.size + 1 < w1.heap.size := H61.out.sz
      have hB3 : Below w.heap.size w w3 := (HB1.out.trans (B2.out.mono hz1)).trans (B3.out.mono (by omega))
      simp only [World.size_alloc] at hz3
      have hO3 := HO3.out
      simp only [World.size_alloc] at hO3
      exact ⟨w2.heap.size, w1.drew.heap.size, w2.heap.size, w2.heap.size + 1, w3.heap.size, c2, c3, a2, a3, rfl, TL3.set H63.out (HO2.out.later B3.out (Nat.le_refl _)) hO3 rfl (by omega) (Nat.le_refl _) (by omega) (by show _ ≤ w1.heap.size; omega) (by omega) (by omega) (by omega) ⟨.inr (Nat.le_refl _), .inl (by omega)⟩ u0 u1 u2, by repeat (first | exact hB3 | refine Below.setCell ?_ (by show w.heap.size ≤ w2.heap.size; omega) _)⟩
    case rel =>
      have h1 : w.heap.size + 1 < w1.heap.size := H61.out.sz
      have hB3 : Below w.heap.size w w3 := (HB1.out.trans (B2.out.mono hz1)).trans (B3.out.mono (by omega))
      have hzz : w1.heap.size + 1 ≤ w2.heap.size := by have := hz2; simpa using this
      have hO2 : Own (w1.heap.size + 1) w2.heap.size w2 54 4 (.slice a2 m.gates.length c2) m.gates.length (c4 m.gates) := HO2.out.mono (by simp) (Nat.le_refl _)
      exact ⟨w1.heap.size, w1.heap.size + 1, w2.heap.size, w2.heap.size, w3.heap.size, c2, c3, a2, a3, rfl, TL3.set H63.out (hO2.later B3.out (Nat.le_refl _)) HO3.out rfl (Nat.le_refl _) (Nat.le_refl _) hzz3 (by omega) (by omega) (by omega) (by omega) ⟨.inl (by omega), .inl (by omega)⟩ u0 u1 u2, by repeat (first | exact hB3 | refine Below.setCell ?_ (by show w.heap.size ≤ w1.heap.size; omega) _)⟩
  case rest =>
    obtain ⟨bO, lo2, hi2, lo3, hi3, c2, c3, a2, a3, rfl, HT, HB⟩ := hcut
    have OK := Lib.hid ok
    have HGL : Hid (m.gates.length ≤ 1048576) := nd
    clear q0 q1 q2 q3 q4 q5 q6 q7 q8 q9 ok hd hk' nk hm H61 HB1 HS6 HB0
    have o1 := HT.out.o1
    have hob := HT.out.ob
    go_wp2
    clear o1
    go_loopw [30] (fun iv wr => ∃ k : Nat, iv = .int .i64 k ∧ k ≤ m.gates.length ∧ Hid (TL3 wr 54 3 w.heap.size bO lo2 hi2 lo3 hi3 m.gates.length m.pulls.length cd ck c2 c3 m.size ad ak a2 a3 (turnP ln m.gates k) m.pulls) ∧ Hid (Below w.heap.size w wr)) (fun iv _ => m.gates.length - (intOf iv).toNat)
    case atStart =>
      have h0 : turnP (ln : Int) m.gates 0 = m.gates := by simp [turnP]
      refine ⟨0, rfl, Nat.zero_le _, ?_, HB⟩
      rw [h0]; exact HT
    case round =>
      clear HT HB hob
      obtain ⟨wo, rfl⟩ : ∃ wo : World, wo = wr := ⟨_, rfl⟩
      obtain ⟨k, rfl, hk, HT, HB⟩ := hrel
      have o1 := HT.out.o1
      have hob := HT.out.ob
      by_cases hlt : k < m.gates.length
      · have hltI : (k : Int) < (m.gates.length : Int) := by omega
        obtain ⟨x, y, z, u, hg⟩ : ∃ x y z u, m.gates[k]! = (x, y, z, u) := ⟨_, _, _, _, rfl⟩
        obtain ⟨f1, f2, f3, f4, f5, f6, f7⟩ := gate_facts OK.out hlt hg
        obtain ⟨zn, rfl⟩ := Int.eq_ofNat_of_zero_le f4
        obtain ⟨un, rfl⟩ := Int.eq_ofNat_of_zero_le f6
        have hTk : (turnP ln m.gates k)[k]! = (x, y, (zn : Int), (un : Int)) := by rw [turnP_at hlt, hg]
        obtain ⟨T, hT⟩ : ∃ T, T = turnP ln m.gates k := ⟨_, rfl⟩
        have hTl : T.length = m.gates.length := by rw [hT]; exact turnP_len hk
        rw [← hT] at HT hTk
        obtain ⟨g2, c2', hs2, -, -⟩ := own_someS HT.out.g.row (by omega)
        cases hs2
        have hg2 := HT.out.g.blocks g2 rfl
        have hgz : g2 < wo.heap.size := by have := HT.out.h2; have := HT.out.h3; have := HT.out.h23; omega
        obtain ⟨d0, d1, d2, d3⟩ := get_c4 T k (by omega)
        rw [hTk] at d0 d1 d2 d3
        have e0 := (HT.out.g.row.cellAt (k * 4) (by omega)).trans d0
        have e1 := (HT.out.g.row.cellAt (k * 4 + 1) (by omega)).trans d1
        have e2 := (HT.out.g.row.cellAt (k * 4 + 2) (by omega)).trans d2
        have e3 := (HT.out.g.row.cellAt (k * 4 + 3) (by omega)).trans d3
        dsimp only at e0 e1 e2 e3
        obtain ⟨y0, hy0⟩ : ∃ y0, y0 = zn &&& ln := ⟨_, rfl⟩
        have hy64 : y0 < 64 := by rw [hy0]; exact and_lt64 ln (by omega)
        have ea : bits .and .i64 (zn : Int) (ln : Int) = (y0 : Int) := by rw [hy0]; exact i64_and zn ln (by omega) (by omega)
        obtain ⟨pv, hpv⟩ : ∃ pv : Nat, pv = popN y0 % 2 := ⟨_, rfl⟩
        have HPV : Hid (popc y0 % 2 = (pv : Int)) := by show _ = _; rw [hpv]; unfold popc; omega
        obtain ⟨tv, htv⟩ : ∃ tv : Nat, tv = un ^^^ pv := ⟨_, rfl⟩
        have eo : bits .xor .i64 (un : Int) (pv : Int) = (tv : Int) := by rw [htv]; exact i64_xor un pv (by omega) (by omega)
        have HTN : Hid (turnP ln m.gates (k + 1) = T.set k ((T[k]!).1, (T[k]!).2.1, (T[k]!).2.2.1, (tv : Int))) := by
          show _ = _
          rw [turnP_step hlt, ← hT, hTk, hg]
          unfold turnG turnD
          simp only [Int.toNat_natCast]
          rw [← hy0, ← hpv, ← htv]
        have HTL := Lib.hid hTl
        clear hT hTk hg d0 d1 d2 d3 hpv htv hy0 f1 f2 f3 f4 f5 f6 f7 hTl
        go_upto_region 7 with fail
        obtain ⟨wv, hwv⟩ : ∃ wv, wv = wo.alloc (.cells #[.int .i64 x, .int .i64 y, .int .i64 (zn : Int), .int .i64 (un : Int)] 54) := ⟨_, rfl⟩
        have hA : Below wo.heap.size wo wv := by rw [hwv]; exact (Below.refl _ _).alloc (Nat.le_refl _) _
        have hwz : wv.heap.size = wo.heap.size + 1 := by rw [hwv]; simp
        have p2 : wv.cell? ⟨wo.heap.size, 2, none⟩ = some (.int .i64 (zn : Int)) := by rw [hwv]; simp [go_sem]
        have p3 : wv.cell? ⟨wo.heap.size, 3, none⟩ = some (.int .i64 (un : Int)) := by rw [hwv]; simp [go_sem]
        rw [← hwv]
        have HTV : Hid (TL3 wv 54 3 w.heap.size bO lo2 hi2 lo3 hi3 m.gates.length m.pulls.length cd ck c2 c3 m.size ad ak (some ⟨g2, 0, none⟩) a3 T m.pulls) := HT.out.later hA
        have p1 := HTV.out.o1
        have p4 := (hA.cell (p := ⟨g2, k * 4 + 3, none⟩) hgz).trans e3
        have p5 : wv.frozen? ⟨g2, k * 4 + 3, none⟩ = false := HTV.out.g.row.frozenAt _
        have hbg : g2 ≠ bO := by have := HT.out.bd.1; omega
        have hgo : g2 ≠ wo.heap.size := by omega
        have HBV : Hid (Below w.heap.size w wv) := HB.out.trans (hA.mono HB.out.size)
        have hzw := HBV.out.size
        have hl2 := HT.out.l2
        clear hwv e0 e1 e2 e3 o1 HT HB hA
        go_region_held3 (fun W => W.cell? ⟨bO, 1, none⟩ = some (.slice (some ⟨g2, 0, none⟩) m.gates.length c2) ∧ W.cell? ⟨wo.heap.size, 2, none⟩ = some (.int .i64 (zn : Int)) ∧ W.cell? ⟨wo.heap.size, 3, none⟩ = some (.int .i64 (un : Int)))
          (first | exact ⟨p1, p2, p3⟩ | (refine ⟨?_, ?_, ?_⟩ <;> (show (World.setCell _ _ _).cell? _ = _; rw [World.cell?_setCell_other _ _ _ _ (by intro h; have := congrArg Addr.block h; dsimp only at this; omega)]) <;> first | exact p1 | exact p2 | exact p3))
          ((go_at_call 151; refine (odd_c y0 hy64 _).mono ?_; rintro e w2 ⟨rfl, hw2⟩; subst hw2; rw [HPV.out]))
        go_wp2
        go_roundw
        case rel =>
          have st := HTV.out.g.row.stored (k * 4 + 3) (.int .i64 (tv : Int))
          rw [c4_set3 (by rw [HTL.out]; exact hlt), ← HTN.out] at st
          have hch : Chg lo2 hi2 wv (wv.setCell ⟨g2, k * 4 + 3, none⟩ (.int .i64 (tv : Int))) := Chg.of_grown st.2 (fun g hg => by cases hg; exact hg2)
          have h7 := HTV.out.row (G' := turnP ln m.gates (k + 1)) hch ⟨st.1, HTV.out.g.top⟩ (turnP_len (by omega))
          have h8 : Below w.heap.size w (wv.setCell ⟨g2, k * 4 + 3, none⟩ (.int .i64 (tv : Int))) := HBV.out.trans (hch.below (by omega) (by omega))
          exact ⟨k + 1, by go_num, by omega, h7.later (Below.refl _ _).drew, h8.drew⟩
        case measure => simp [intOf]; omega
      · obtain rfl : k = m.gates.length := by omega
        have HPS : Hid (∀ S : List D4, S.Perm (turnP ln m.gates m.gates.length) → S.Pairwise (fun x y => lt4 y x = false) → S = turnL ln m.gates) := by
          intro S h1 h2
          rw [turnP_all] at h1
          exact turn_unique OK.out ln h1 h2
        have HLK : Hid (m.gates.length = (turnP ln m.gates m.gates.length).length) := by show _ = _; rw [turnP_len (Nat.le_refl _)]
        clear o1
        have o0 := HT.out.o0
        have o1 := HT.out.o1
        have o2 := HT.out.o2
        have hzo := HB.out.size
        go_wp2_with fail
        refine (sortG_c lo2 hi2 _ _ _ _ _ _ HLK.out HT.out.g HGL.out).mono ?_
        rintro e w5 ⟨rfl, S, hp, hs, ho, hc⟩
        obtain ⟨GT, hGT⟩ : ∃ GT, GT = turnL (ln : Int) m.gates := ⟨_, rfl⟩
        have hS : S = GT := by rw [hGT]; exact HPS.out S hp hs
        have HSL : Hid (GT.length = m.gates.length) := (by show _ = _; rw [← hS, hp.length_eq]; exact HLK.out.symm)
        subst hS
        have HT5 := Lib.hid (HT.out.row hc ho HSL.out)
        have HB5 : Hid (Below w.heap.size w w5) := HB.out.trans (hc.below (by have := HT.out.l2; omega) hzo)
        have HGT := Lib.hid hGT
        clear hGT hp hs ho hc o0 o1 o2
        have o0 := HT5.out.o0
        have o1 := HT5.out.o1
        have o2 := HT5.out.o2
        obtain ⟨s0, s1, s2, s3, s4, s5, s6, s7, s8, s9⟩ := HT5.out.six
        go_wp2
        refine bodyPost_ret (v := .tuple #[.agg #[.int .i64 m.size, .slice a2 m.gates.length c2, .slice a3 m.pulls.length c3], .bool true]) (by simp [results, Try.results32, go_sem, *]) rfl ?_
        have l2 := HT5.out.l2
        have h2 := HT5.out.h2
        have h3 := HT5.out.h3
        have h23 := HT5.out.h23
        have l3 := HT5.out.l3
        have hz5 := HB5.out.size
        rw [← HGT.out]
        refine ⟨_, rfl, ⟨54, 3, _, _, rfl, ?_, ?_, HT5.out.g.apart HT5.out.p (.inl h2)⟩, ?_⟩
        · show Own _ _ _ _ _ _ S.length (c4 S)
          rw [HSL.out]
          refine Own.mono (lo := lo2) (hi := hi2) ?_ (by omega) (by simp; omega)
          repeat (first | exact HT5.out.g | refine Own.setCell ?_ (.inl (by show w.heap.size + 1 < _; omega)) _)
        · refine Own.mono (lo := lo3) (hi := hi3) ?_ (by omega) (by simp; omega)
          repeat (first | exact HT5.out.p | refine Own.setCell ?_ (.inl (by show w.heap.size + 1 < _; omega)) _)
        · repeat (first | exact HB5.out | refine Below.setCell ?_ (by show w.heap.size ≤ w.heap.size + 1; omega) _)
end Go.Proofs.Ytmilpahggceemaa
