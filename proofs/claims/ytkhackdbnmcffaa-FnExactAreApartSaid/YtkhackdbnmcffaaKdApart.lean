/- AreApart: can one not come from a visit to another one. -/
import Derived.Test.YtkhackdbnmcffaaKdVis
import Derived.Test.YtkhackdbnmcffaaKdSpr
set_option linter.unusedVariables false
set_option linter.unusedSimpArgs false
namespace Go.KD
open Go.RowKit
noncomputable def pAreApart (m : Wk) (x a y b : Int) : Bool × Bool := if visitB m x a && visitB m y b then (decide (bD (bfF (nxW m) [((x.toNat * 64 + a.toNat, 0) : Bn)]) (y.toNat * 64 + b.toNat) < 0), true) else (false, false)
theorem visit_ok {m : Wk} {x a : Int} (h : visitB m x a = true) : WkOk m ∧ ∃ xn an : Nat, x = xn ∧ a = an ∧ (xn : Int) < m.size ∧ an < 64 := by
  unfold visitB at h
  rw [Bool.and_eq_true, Bool.and_eq_true, worksB_true, inB_true, setB_true] at h
  obtain ⟨⟨h1, h2⟩, h3⟩ := h
  exact ⟨h1, x.toNat, a.toNat, by omega, by omega, by omega, by omega⟩
end Go.KD
namespace Go.Proofs.Ytkhackdbnmcffaa
open Go.RowKit Go.KD
attribute [local go_sem] later_cell later_frozen
set_option maxRecDepth 100000 in
set_option maxHeartbeats 8000000 in
theorem implAreApart_c (v : Value) (m : Wk) (x a y b : Int) (w : World) (hm : WkAt w v m) (wx : wfI x) (wa : wfI a) (wy : wfI y) (wb : wfI b) :
    Calls Try.prog 15 #[v, .int .i64 x, .int .i64 a, .int .i64 y, .int .i64 b] w fun e w' => e = .returned (.tuple #[.bool (pAreApart m x a y b).1, .bool (pAreApart m x a y b).2]) ∧ Below w.heap.size w w' := by
  have hM := hm
  obtain ⟨⟨ad, cd, ak, ck, rfl, hd, hk'⟩, nd, nk⟩ := hM
  cases b1 : visitB m x a
  case false =>
    have hp : pAreApart m x a y b = (false, false) := by simp [pAreApart, b1]
    rw [hp]
    clear hp
    go_enter Try.func15, Try.ntmps15
    go_wp2_with (go_at_call 69; refine (isVisitOf_c _ m _ _ _ (hm.later (by (repeat (first | exact Below.refl _ _ | apply Below.drew | apply below_drewN | (refine Below.setCell ?_ (by first | omega | (simp; done) | (simp; omega) | (dsimp only; omega)) _) | (refine Below.alloc ?_ (by first | omega | (simp; done) | (simp; omega) | (dsimp only; omega)) _)))))).mono ?_; rintro e w1 ⟨rfl, hb1⟩; have HB1 : Hid (Below w.heap.size w w1) := below_then (by (repeat (first | exact Below.refl _ _ | apply Below.drew | apply below_drewN | (refine Below.setCell ?_ (by first | omega | (simp; done) | (simp; omega) | (dsimp only; omega)) _) | (refine Below.alloc ?_ (by first | omega | (simp; done) | (simp; omega) | (dsimp only; omega)) _)))) hb1; have HX1 : Hid (Below (w.heap.size + 1) (w.alloc (.cells #[.int .i64 m.size, .slice ad m.gates.length cd, .slice ak m.pulls.length ck] 29)) w1) := hb1.mono (by simp); rw [b1])
    go_ret2
    exact ⟨rfl, HB1.out⟩
  cases b2 : visitB m y b
  case false =>
    have hp : pAreApart m x a y b = (false, false) := by simp [pAreApart, b2]
    rw [hp]
    clear hp
    have HB2' := Lib.hid b2
    clear b2
    obtain ⟨q0, q1, q2, z1⟩ := box3W (Below.refl (w.heap.size + 1) (w.alloc (.cells #[.int .i64 m.size, .slice ad m.gates.length cd, .slice ak m.pulls.length ck] 29))) (by omega)
    go_enter Try.func15, Try.ntmps15
    go_wp2_with (first
      | (go_at_call 69; refine (isVisitOf_c _ m _ _ _ (hm.later (by (repeat (first | exact Below.refl _ _ | apply Below.drew | apply below_drewN | (refine Below.setCell ?_ (by first | omega | (simp; done) | (simp; omega) | (dsimp only; omega)) _) | (refine Below.alloc ?_ (by first | omega | (simp; done) | (simp; omega) | (dsimp only; omega)) _)))))).mono ?_; rintro e w1 ⟨rfl, hb1⟩; have HB1 : Hid (Below w.heap.size w w1) := below_then (by (repeat (first | exact Below.refl _ _ | apply Below.drew | apply below_drewN | (refine Below.setCell ?_ (by first | omega | (simp; done) | (simp; omega) | (dsimp only; omega)) _) | (refine Below.alloc ?_ (by first | omega | (simp; done) | (simp; omega) | (dsimp only; omega)) _)))) hb1; have HX1 : Hid (Below (w.heap.size + 1) (w.alloc (.cells #[.int .i64 m.size, .slice ad m.gates.length cd, .slice ak m.pulls.length ck] 29)) w1) := hb1.mono (by simp); rw [b1]; clear q0 q1 q2; obtain ⟨q0, q1, q2, z1⟩ := box3W HX1.out (by omega))
      | (go_at_call 69; refine (isVisitOf_c _ m _ _ _ (hm.later HB1.out)).mono ?_; rintro e w2 ⟨rfl, hb2⟩; have HB2 : Hid (Below w.heap.size w w2) := below_then HB1.out hb2; have HX2 : Hid (Below (w.heap.size + 1) (w.alloc (.cells #[.int .i64 m.size, .slice ad m.gates.length cd, .slice ak m.pulls.length ck] 29)) w2) := HX1.out.trans (hb2.mono (by omega)); rw [HB2'.out]))
    go_ret2
    exact ⟨rfl, HB2.out⟩
  obtain ⟨OK, xn, an, rfl, rfl, hx, ha⟩ := visit_ok b1
  obtain ⟨-, yn, bn, rfl, rfl, hy, hb⟩ := visit_ok b2
  have hs2 := OK.s2
  have hy12 : yn < 12 := by omega
  have hp : pAreApart m (xn : Int) (an : Int) (yn : Int) (bn : Int) = (decide (bD (bfF (nxW m) [((xn * 64 + an, 0) : Bn)]) (yn * 64 + bn) < 0), true) := by simp [pAreApart, b1, b2]
  rw [hp]
  obtain ⟨E, hE⟩ : ∃ E, E = bfF (nxW m) [((xn * 64 + an, 0) : Bn)] := ⟨_, rfl⟩
  rw [← hE]
  have HE := Lib.hid hE
  have HB2' := Lib.hid b2
  clear hp hE b2
  obtain ⟨si, hsi⟩ : ∃ si, si = yn * 64 + bn := ⟨_, rfl⟩
  rw [← hsi]
  have HSI := Lib.hid hsi
  obtain ⟨rv, hrv⟩ : ∃ rv, rv = bD E si := ⟨_, rfl⟩
  rw [← hrv]
  obtain ⟨q0, q1, q2, z1⟩ := box3W (Below.refl (w.heap.size + 1) (w.alloc (.cells #[.int .i64 m.size, .slice ad m.gates.length cd, .slice ak m.pulls.length ck] 29))) (by omega)
  go_enter Try.func15, Try.ntmps15
  go_upto_region 3 with (first
    | (go_at_call 69; refine (isVisitOf_c _ m _ _ _ (hm.later (by (repeat (first | exact Below.refl _ _ | apply Below.drew | apply below_drewN | (refine Below.setCell ?_ (by first | omega | (simp; done) | (simp; omega) | (dsimp only; omega)) _) | (refine Below.alloc ?_ (by first | omega | (simp; done) | (simp; omega) | (dsimp only; omega)) _)))))).mono ?_; rintro e w1 ⟨rfl, hb1⟩; have HB1 : Hid (Below w.heap.size w w1) := below_then (by (repeat (first | exact Below.refl _ _ | apply Below.drew | apply below_drewN | (refine Below.setCell ?_ (by first | omega | (simp; done) | (simp; omega) | (dsimp only; omega)) _) | (refine Below.alloc ?_ (by first | omega | (simp; done) | (simp; omega) | (dsimp only; omega)) _)))) hb1; have HX1 : Hid (Below (w.heap.size + 1) (w.alloc (.cells #[.int .i64 m.size, .slice ad m.gates.length cd, .slice ak m.pulls.length ck] 29)) w1) := hb1.mono (by simp); rw [b1]; clear q0 q1 q2; obtain ⟨q0, q1, q2, z1⟩ := box3W HX1.out (by omega))
    | (go_at_call 69; refine (isVisitOf_c _ m _ _ _ (hm.later HB1.out)).mono ?_; rintro e w2 ⟨rfl, hb2⟩; have HB2 : Hid (Below w.heap.size w w2) := below_then HB1.out hb2; have HX2 : Hid (Below (w.heap.size + 1) (w.alloc (.cells #[.int .i64 m.size, .slice ad m.gates.length cd, .slice ak m.pulls.length ck] 29)) w2) := HX1.out.trans (hb2.mono (by omega)); rw [HB2'.out]; clear q0 q1 q2; obtain ⟨q0, q1, q2, z2⟩ := box3W HX2.out (by omega)))
  obtain ⟨G, hG⟩ : ∃ G, G = gridL E := ⟨_, rfl⟩
  have hGl : G.length = 768 := by rw [hG]; exact gridL_len E
  have hGs : G[si]! = rv := by rw [hG, hrv]; exact gridL_at E (by omega)
  have hHG : Hid (gridL (bfF (nxW m) ([xn * 64 + an].map fun s => ((s, 0) : Bn))) = G) := by show _ = _; rw [hG, HE.out]; rfl
  have hyI : (yn : Int) < 12 := by omega
  have hbI : (bn : Int) < 64 := by omega
  have HGS := Lib.hid hGs
  have HGL := Lib.hid hGl
  have HQ : Hid (Q2 (w2.alloc (.cells #[.int .i64 (xn : Int), .int .i64 (an : Int)] 82)) w2.heap.size 0 1 ([xn * 64 + an].map prN)) := by
    have hpr : prN (xn * 64 + an) = ((xn : Int), (an : Int)) := prN_id xn an ha
    refine ⟨by simp, Nat.le_refl _, by unfold maxLen; omega, fun j hj => ?_, fun j hj => ?_, fun j hj => ?_⟩
    · obtain rfl : j = 0 := by simpa using hj
      simp [go_sem, hpr]
    · obtain rfl : j = 0 := by simpa using hj
      simp [go_sem, hpr]
    · have hj2 : j = 0 ∨ j = 1 := by omega
      rcases hj2 with rfl | rfl <;> simp [go_sem]
  have HM2 : Hid (WkAt w2 (.agg #[.int .i64 m.size, .slice ad m.gates.length cd, .slice ak m.pulls.length ck]) m) := hm.later HB2.out
  obtain ⟨Rw, hRw⟩ : ∃ Rw, Rw = (ints G).toArray.extract (yn * 64) (yn * 64 + 64) := ⟨_, rfl⟩
  have hix1 : ∀ W : World, (Instr.index 80 (.agg (ints G).toArray) (.int .i64 (yn : Int))).run Try.prog W = .ok (.agg Rw) W := fun W => by rw [hRw]; exact run_index_row W _ _ _ 12 64 yn _ Try.underlying80 Try.underlying78 (by kernel_rfl) hy12
  have hix2 : ∀ W : World, (Instr.index 78 (.agg Rw) (.int .i64 (bn : Int))).run Try.prog W = .ok (.int .i64 rv) W := fun W => run_index_int W _ _ 64 bn _ _ Try.underlying78 Try.underlying3 (by kernel_rfl) hb (by rw [hRw, grid_cell hGl hy12 hb, ← hsi, hGs])
  clear hrv hsi hG hGs hGl hRw
  go_wp2_with (go_at_call 70; refine (visits_c m ad ak cd ck [xn * 64 + an] w2.heap.size 0 1 w2 _ HM2.out OK ((Below.refl _ _).alloc (Nat.le_refl _) _) (by simp) (fun s hs => by rw [List.mem_singleton] at hs; rw [hs, show (xn * 64 + an) / 64 = xn from by omega]; exact hx) HQ.out (Nat.le_refl _)).mono ?_; rintro e w3 ⟨rfl, hb3⟩; rw [hHG.out]; have HB3 : Hid (Below w.heap.size w w3) := below_then HB2.out (((Below.refl _ _).alloc (Nat.le_refl _) _).trans hb3))
  go_ret2
  exact ⟨rfl, HB3.out⟩
set_option maxRecDepth 100000 in
set_option maxHeartbeats 8000000 in
theorem specAreApart_c (v : Value) (m : Wk) (x a y b : Int) (w : World) (hm : WkAt w v m) (wx : wfI x) (wa : wfI a) (wy : wfI y) (wb : wfI b) :
    Calls Try.prog 13 #[v, .int .i64 x, .int .i64 a, .int .i64 y, .int .i64 b] w fun e w' => e = .returned (.tuple #[.bool (pAreApart m x a y b).1, .bool (pAreApart m x a y b).2]) ∧ Below w.heap.size w w' := by
  have hM := hm
  obtain ⟨⟨ad, cd, ak, ck, rfl, hd, hk'⟩, nd, nk⟩ := hM
  cases b1 : visitB m x a
  case false =>
    have hp : pAreApart m x a y b = (false, false) := by simp [pAreApart, b1]
    rw [hp]
    clear hp
    go_enter Try.func13, Try.ntmps13
    go_wp2_with (go_at_call 64; refine (l8Visit_c _ m _ _ _ (hm.later (by (repeat (first | exact Below.refl _ _ | apply Below.drew | apply below_drewN | (refine Below.setCell ?_ (by first | omega | (simp; done) | (simp; omega) | (dsimp only; omega)) _) | (refine Below.alloc ?_ (by first | omega | (simp; done) | (simp; omega) | (dsimp only; omega)) _)))))).mono ?_; rintro e w1 ⟨rfl, hb1⟩; have HB1 : Hid (Below w.heap.size w w1) := below_then (by (repeat (first | exact Below.refl _ _ | apply Below.drew | apply below_drewN | (refine Below.setCell ?_ (by first | omega | (simp; done) | (simp; omega) | (dsimp only; omega)) _) | (refine Below.alloc ?_ (by first | omega | (simp; done) | (simp; omega) | (dsimp only; omega)) _)))) hb1; have HX1 : Hid (Below (w.heap.size + 1) (w.alloc (.cells #[.int .i64 m.size, .slice ad m.gates.length cd, .slice ak m.pulls.length ck] 29)) w1) := hb1.mono (by simp); rw [b1])
    go_ret2
    exact ⟨rfl, HB1.out⟩
  cases b2 : visitB m y b
  case false =>
    have hp : pAreApart m x a y b = (false, false) := by simp [pAreApart, b2]
    rw [hp]
    clear hp
    have HB2' := Lib.hid b2
    clear b2
    obtain ⟨q0, q1, q2, z1⟩ := box3W (Below.refl (w.heap.size + 1) (w.alloc (.cells #[.int .i64 m.size, .slice ad m.gates.length cd, .slice ak m.pulls.length ck] 29))) (by omega)
    go_enter Try.func13, Try.ntmps13
    go_wp2_with (first
      | (go_at_call 64; refine (l8Visit_c _ m _ _ _ (hm.later (by (repeat (first | exact Below.refl _ _ | apply Below.drew | apply below_drewN | (refine Below.setCell ?_ (by first | omega | (simp; done) | (simp; omega) | (dsimp only; omega)) _) | (refine Below.alloc ?_ (by first | omega | (simp; done) | (simp; omega) | (dsimp only; omega)) _)))))).mono ?_; rintro e w1 ⟨rfl, hb1⟩; have HB1 : Hid (Below w.heap.size w w1) := below_then (by (repeat (first | exact Below.refl _ _ | apply Below.drew | apply below_drewN | (refine Below.setCell ?_ (by first | omega | (simp; done) | (simp; omega) | (dsimp only; omega)) _) | (refine Below.alloc ?_ (by first | omega | (simp; done) | (simp; omega) | (dsimp only; omega)) _)))) hb1; have HX1 : Hid (Below (w.heap.size + 1) (w.alloc (.cells #[.int .i64 m.size, .slice ad m.gates.length cd, .slice ak m.pulls.length ck] 29)) w1) := hb1.mono (by simp); rw [b1]; clear q0 q1 q2; obtain ⟨q0, q1, q2, z1⟩ := box3W HX1.out (by omega))
      | (go_at_call 64; refine (l8Visit_c _ m _ _ _ (hm.later HB1.out)).mono ?_; rintro e w2 ⟨rfl, hb2⟩; have HB2 : Hid (Below w.heap.size w w2) := below_then HB1.out hb2; have HX2 : Hid (Below (w.heap.size + 1) (w.alloc (.cells #[.int .i64 m.size, .slice ad m.gates.length cd, .slice ak m.pulls.length ck] 29)) w2) := HX1.out.trans (hb2.mono (by omega)); rw [HB2'.out]))
    go_ret2
    exact ⟨rfl, HB2.out⟩
  obtain ⟨OK, xn, an, rfl, rfl, hx, ha⟩ := visit_ok b1
  obtain ⟨-, yn, bn, rfl, rfl, hy, hb⟩ := visit_ok b2
  have hs2 := OK.s2
  have hy12 : yn < 12 := by omega
  have hp : pAreApart m (xn : Int) (an : Int) (yn : Int) (bn : Int) = (decide (bD (bfF (nxW m) [((xn * 64 + an, 0) : Bn)]) (yn * 64 + bn) < 0), true) := by simp [pAreApart, b1, b2]
  rw [hp]
  obtain ⟨E, hE⟩ : ∃ E, E = bfF (nxW m) [((xn * 64 + an, 0) : Bn)] := ⟨_, rfl⟩
  rw [← hE]
  have HE := Lib.hid hE
  have HB2' := Lib.hid b2
  clear hp hE b2
  obtain ⟨si, hsi⟩ : ∃ si, si = yn * 64 + bn := ⟨_, rfl⟩
  rw [← hsi]
  have HSI := Lib.hid hsi
  obtain ⟨rv, hrv⟩ : ∃ rv, rv = bD E si := ⟨_, rfl⟩
  rw [← hrv]
  obtain ⟨q0, q1, q2, z1⟩ := box3W (Below.refl (w.heap.size + 1) (w.alloc (.cells #[.int .i64 m.size, .slice ad m.gates.length cd, .slice ak m.pulls.length ck] 29))) (by omega)
  go_enter Try.func13, Try.ntmps13
  go_upto_region 3 with (first
    | (go_at_call 64; refine (l8Visit_c _ m _ _ _ (hm.later (by (repeat (first | exact Below.refl _ _ | apply Below.drew | apply below_drewN | (refine Below.setCell ?_ (by first | omega | (simp; done) | (simp; omega) | (dsimp only; omega)) _) | (refine Below.alloc ?_ (by first | omega | (simp; done) | (simp; omega) | (dsimp only; omega)) _)))))).mono ?_; rintro e w1 ⟨rfl, hb1⟩; have HB1 : Hid (Below w.heap.size w w1) := below_then (by (repeat (first | exact Below.refl _ _ | apply Below.drew | apply below_drewN | (refine Below.setCell ?_ (by first | omega | (simp; done) | (simp; omega) | (dsimp only; omega)) _) | (refine Below.alloc ?_ (by first | omega | (simp; done) | (simp; omega) | (dsimp only; omega)) _)))) hb1; have HX1 : Hid (Below (w.heap.size + 1) (w.alloc (.cells #[.int .i64 m.size, .slice ad m.gates.length cd, .slice ak m.pulls.length ck] 29)) w1) := hb1.mono (by simp); rw [b1]; clear q0 q1 q2; obtain ⟨q0, q1, q2, z1⟩ := box3W HX1.out (by omega))
    | (go_at_call 64; refine (l8Visit_c _ m _ _ _ (hm.later HB1.out)).mono ?_; rintro e w2 ⟨rfl, hb2⟩; have HB2 : Hid (Below w.heap.size w w2) := below_then HB1.out hb2; have HX2 : Hid (Below (w.heap.size + 1) (w.alloc (.cells #[.int .i64 m.size, .slice ad m.gates.length cd, .slice ak m.pulls.length ck] 29)) w2) := HX1.out.trans (hb2.mono (by omega)); rw [HB2'.out]; clear q0 q1 q2; obtain ⟨q0, q1, q2, z2⟩ := box3W HX2.out (by omega)))
  have hsn : si < m.pulls.length * 64 := by have := OK.np; omega
  have hnp := OK.np
  obtain ⟨n, hn⟩ : ∃ n, n = m.pulls.length * 64 := ⟨_, rfl⟩
  rw [← hn] at hsn
  have hsI : (si : Int) < (n : Int) := by omega
  have HRV := Lib.hid hrv
  have HN := Lib.hid hn
  clear hrv hn hsi
  go_wp2_with (first
    | (go_at_call 65; refine (l8Spread_c m ad ak cd ck xn an n _ (hm.later HB2.out) OK hx ha HN.out).mono ?_; rintro e w3 ⟨a3, c3, rfl, hi3, hb3⟩; rw [← HE.out] at hi3; have HB3 : Hid (Below w.heap.size w w3) := below_then HB2.out hb3; obtain ⟨b4, o4, he4, hz4, hc4⟩ := hi3 si (by rw [gridN_len]; exact hsn); cases he4; rw [gridN_at n E hsn, ← HRV.out, Nat.zero_add] at hc4)
    | (go_at_call 66; refine (l4Id_c yn bn si HSI.out (by omega) (by omega) _).mono ?_; rintro e w4 ⟨rfl, rfl⟩))
  go_ret2
  exact ⟨rfl, HB3.out⟩
end Go.Proofs.Ytkhackdbnmcffaa
