/- Plans: spec.l8Run. IsPlan. RunPlan. Results that are mazes or works: the marks that the laws leave in them, and how the laws read them again. Contracts of SwapFilling. -/
import Derived.Test.YtmilpahggceemaaKpFp5
import Derived.Deep.RegionHeld3
import Derived.Test.YtmilpahggceemaaKpFp0
import Derived.Test.YtmilpahggceemaaKpFp3
import Derived.RegionTactic
import Derived.ChangeAlike
set_option linter.unusedVariables false
set_option linter.unusedSimpArgs false
namespace Go.Proofs.Ytmilpahggceemaa
open Go.RowKit Go.KD
attribute [local go_sem] later_cell later_frozen
set_option maxRecDepth 100000 in
set_option maxHeartbeats 4000000 in
theorem l8Run_c (v : Value) (m : Wk) (a : Option Addr) (cap : Nat) (p : List Int) (w : World) (hm : WkAt w v m) (ok : WkOk m) (hA : IC w a p) (hl : p.length ≤ 1048576) :
    Calls Try.prog 142 #[v, .slice a p.length cap] w fun e w' => e = .returned (.tuple #[.int .i64 (runP m p).1, .int .i64 (runP m p).2.1, .bool (runP m p).2.2]) ∧ Below w.heap.size w w' := by
  have hM := hm
  obtain ⟨⟨ad, cd, ak, ck, rfl, hd, hk'⟩, nd, nk⟩ := hM
  have OK := Lib.hid ok; clear ok
  by_cases h60 : p.length ≤ 60
  case neg =>
    have g : decide ((60 : Int) < (p.length : Int)) = true := by simp; omega
    have HD : Hid (runP m p = (0, 0, false)) := by show _ = _; simp [runP, h60]
    clear h60
    go_enter Try.func142, Try.ntmps142
    go_wp2
    go_ret3
    exact ⟨ret_tup2 (by rw [HD.out] <;> rfl), by (repeat (first | exact Below.refl _ _ | apply Below.drew | apply below_drewN | (refine Below.setCell ?_ (by first | omega | (simp; done) | (simp; omega) | (dsimp only; omega)) _) | (refine Below.alloc ?_ (by first | omega | (simp; done) | (simp; omega) | (dsimp only; omega)) _)))⟩
  case pos =>
    have g : decide ((60 : Int) < (p.length : Int)) = false := by simp; omega
    go_enter Try.func142, Try.ntmps142
    go_wp2
    go_loopw [7, 8, 9] (fun x l i wr => ∃ k xn ln : Nat, k ≤ p.length ∧ i = .int .i64 k ∧ x = .int .i64 xn ∧ l = .int .i64 ln ∧ Hid (runK m p k = some ((xn : Int), (ln : Int))) ∧ (xn : Int) < m.size ∧ ln < 64 ∧ Below (w.heap.size + 1) (w.alloc (.cells #[.int .i64 m.size, .slice ad m.gates.length cd, .slice ak m.pulls.length ck] 36)) wr) (fun _ _ i _ => p.length - (intOf i).toNat)
    case atStart => exact ⟨0, 0, 0, Nat.zero_le _, rfl, rfl, rfl, rfl, by have := OK.out.s1; simp; omega, by omega, Below.refl _ _⟩
    case round =>
      obtain ⟨wo, rfl⟩ : ∃ wo : World, wo = wr := ⟨_, rfl⟩
      obtain ⟨k, xn, ln, hkl, rfl, rfl, rfl, HR, hx, hln, hb⟩ := hrel
      obtain ⟨hc, hf, hz⟩ := bcell3 hb
      simp only [World.size_alloc] at hz
      have hz1 : w.heap.size < wo.heap.size := by omega
      have HB : Hid (Below w.heap.size w wo) := (by (repeat (first | exact Below.refl _ _ | apply Below.drew | apply below_drewN | (refine Below.setCell ?_ (by first | omega | (simp; done) | (simp; omega) | (dsimp only; omega)) _) | (refine Below.alloc ?_ (by first | omega | (simp; done) | (simp; omega) | (dsimp only; omega)) _))) : Below w.heap.size w (w.alloc _)).trans (hb.mono (by omega))
      have HBo := Lib.hid hb
      by_cases hlt : k < p.length
      · obtain ⟨b, off, y, rfl, HY, hbs, e0⟩ := (hA.later HB.out).at k hlt
        have h41 := actsL_len m xn ln
        cases p1 : hasI (actsL m xn ln) y
        · have HD : Hid (runP m p = (0, 0, false)) := by
            show _ = _
            have h1 : runK m p (k + 1) = none := by unfold runK; rw [HR.out]; simp [HY.out, p1]
            have h2 := runK_none h1 (p.length - (k + 1))
            rw [show k + 1 + (p.length - (k + 1)) = p.length from by omega] at h2
            simp [runP, h2]
          have q0 : wo.cell? ⟨w.heap.size, 0, none⟩ = some (.int .i64 m.size) := by rw [HBo.out.cell (p := ⟨w.heap.size, 0, none⟩) (by simp)]; simp [go_sem]
          have q1 : wo.cell? ⟨w.heap.size, 1, none⟩ = some (.slice ad m.gates.length cd) := by rw [HBo.out.cell (p := ⟨w.heap.size, 1, none⟩) (by simp)]; simp [go_sem]
          have q2 : wo.cell? ⟨w.heap.size, 2, none⟩ = some (.slice ak m.pulls.length ck) := by rw [HBo.out.cell (p := ⟨w.heap.size, 2, none⟩) (by simp)]; simp [go_sem]
          have q3 : wo.cell? ⟨b, off + k, none⟩ = some (.int .i64 y) := e0
          go_wp2
          go_region_held3 (fun W => W.cell? ⟨w.heap.size, 0, none⟩ = some (.int .i64 m.size) ∧ W.cell? ⟨w.heap.size, 1, none⟩ = some (.slice ad m.gates.length cd) ∧ W.cell? ⟨w.heap.size, 2, none⟩ = some (.slice ak m.pulls.length ck) ∧ W.cell? ⟨b, off + k, none⟩ = some (.int .i64 y))
            (first | exact ⟨q0, q1, q2, q3⟩ | exact ⟨r0, r1, r2, r3⟩)
            (first | (go_at_call 177; refine (l8Acts_c _ m xn ln _ (hm.later HB.out.drew) OK.out hx hln).mono ?_; rintro e w2 ⟨u, rfl, ⟨bu, ou, cu, rfl, hi, -, -⟩, hb2⟩; have HI := Lib.hid hi; clear hi; have r0 : w2.cell? ⟨w.heap.size, 0, none⟩ = some (.int .i64 m.size) := (hb2.cell (p := ⟨w.heap.size, 0, none⟩) (show w.heap.size < wo.heap.size by assumption)).trans q0; have r1 : w2.cell? ⟨w.heap.size, 1, none⟩ = some (.slice ad m.gates.length cd) := (hb2.cell (p := ⟨w.heap.size, 1, none⟩) (show w.heap.size < wo.heap.size by assumption)).trans q1; have r2 : w2.cell? ⟨w.heap.size, 2, none⟩ = some (.slice ak m.pulls.length ck) := (hb2.cell (p := ⟨w.heap.size, 2, none⟩) (show w.heap.size < wo.heap.size by assumption)).trans q2; have r3 : w2.cell? ⟨b, off + k, none⟩ = some (.int .i64 y) := (hb2.cell (p := ⟨b, off + k, none⟩) (show b < wo.heap.size by assumption)).trans q3) | (go_at_call 183; refine (l1Has_c _ _ _ (actsL m xn ln) _ _ rfl HI.out (by omega)).mono ?_; rintro e w3 ⟨rfl, rfl⟩; rw [p1]))
          go_wp2
          go_ret3
          exact ⟨ret_tup2 (by rw [HD.out] <;> rfl), below_then HB.out.drew hb2⟩
        · have h1 : runK m p (k + 1) = some (doP m xn ln y) := by unfold runK; rw [HR.out]; simp [HY.out, p1]
          obtain ⟨x2, l2, hx2, hl2, hx3, hl3⟩ := runK_ok OK.out p (k + 1) (doP m xn ln y).1 (doP m xn ln y).2 h1
          have HX2 := Lib.hid hx2; have HL2 := Lib.hid hl2; clear hx2 hl2
          have H1 := Lib.hid h1; clear h1
          have q0 : wo.cell? ⟨w.heap.size, 0, none⟩ = some (.int .i64 m.size) := by rw [HBo.out.cell (p := ⟨w.heap.size, 0, none⟩) (by simp)]; simp [go_sem]
          have q1 : wo.cell? ⟨w.heap.size, 1, none⟩ = some (.slice ad m.gates.length cd) := by rw [HBo.out.cell (p := ⟨w.heap.size, 1, none⟩) (by simp)]; simp [go_sem]
          have q2 : wo.cell? ⟨w.heap.size, 2, none⟩ = some (.slice ak m.pulls.length ck) := by rw [HBo.out.cell (p := ⟨w.heap.size, 2, none⟩) (by simp)]; simp [go_sem]
          have q3 : wo.cell? ⟨b, off + k, none⟩ = some (.int .i64 y) := e0
          go_wp2
          go_region_held3 (fun W => W.cell? ⟨w.heap.size, 0, none⟩ = some (.int .i64 m.size) ∧ W.cell? ⟨w.heap.size, 1, none⟩ = some (.slice ad m.gates.length cd) ∧ W.cell? ⟨w.heap.size, 2, none⟩ = some (.slice ak m.pulls.length ck) ∧ W.cell? ⟨b, off + k, none⟩ = some (.int .i64 y))
            (first | exact ⟨q0, q1, q2, q3⟩ | exact ⟨r0, r1, r2, r3⟩)
            (first | (go_at_call 177; refine (l8Acts_c _ m xn ln _ (hm.later HB.out.drew) OK.out hx hln).mono ?_; rintro e w2 ⟨u, rfl, ⟨bu, ou, cu, rfl, hi, -, -⟩, hb2⟩; have HI := Lib.hid hi; clear hi; have r0 : w2.cell? ⟨w.heap.size, 0, none⟩ = some (.int .i64 m.size) := (hb2.cell (p := ⟨w.heap.size, 0, none⟩) (show w.heap.size < wo.heap.size by assumption)).trans q0; have r1 : w2.cell? ⟨w.heap.size, 1, none⟩ = some (.slice ad m.gates.length cd) := (hb2.cell (p := ⟨w.heap.size, 1, none⟩) (show w.heap.size < wo.heap.size by assumption)).trans q1; have r2 : w2.cell? ⟨w.heap.size, 2, none⟩ = some (.slice ak m.pulls.length ck) := (hb2.cell (p := ⟨w.heap.size, 2, none⟩) (show w.heap.size < wo.heap.size by assumption)).trans q2; have r3 : w2.cell? ⟨b, off + k, none⟩ = some (.int .i64 y) := (hb2.cell (p := ⟨b, off + k, none⟩) (show b < wo.heap.size by assumption)).trans q3) | (go_at_call 183; refine (l1Has_c _ _ _ (actsL m xn ln) _ _ rfl HI.out (by omega)).mono ?_; rintro e w3 ⟨rfl, rfl⟩; rw [p1]))
          have HB2 : Hid (Below w.heap.size w w2) := below_then HB.out.drew hb2
          have hz2 : wo.heap.size ≤ w2.heap.size := hb2.size
          have HB2' : Hid (Below (w.heap.size + 1) (w.alloc (.cells #[.int .i64 m.size, .slice ad m.gates.length cd, .slice ak m.pulls.length ck] 36)) w2) := HBo.out.drew.trans (hb2.mono (show w.heap.size + 1 ≤ wo.heap.size by omega))
          clear hb2 hc hf
          go_wp2
          go_region_held3 (fun W => W.cell? ⟨w.heap.size, 0, none⟩ = some (.int .i64 m.size) ∧ W.cell? ⟨w.heap.size, 1, none⟩ = some (.slice ad m.gates.length cd) ∧ W.cell? ⟨w.heap.size, 2, none⟩ = some (.slice ak m.pulls.length ck) ∧ W.cell? ⟨b, off + k, none⟩ = some (.int .i64 y))
            (first | exact ⟨r0, r1, r2, r3⟩ | exact ⟨s0, s1, s2, s3⟩)
            ((go_at_call 178; refine (l8Do_c _ m xn ln y _ (hm.later HB2.out.drew) OK.out hx hln).mono ?_; rintro e w4 ⟨rfl, hb4⟩; rw [HX2.out, HL2.out]; have s0 : w4.cell? ⟨w.heap.size, 0, none⟩ = some (.int .i64 m.size) := (hb4.cell (p := ⟨w.heap.size, 0, none⟩) (show w.heap.size < w2.heap.size by omega)).trans r0; have s1 : w4.cell? ⟨w.heap.size, 1, none⟩ = some (.slice ad m.gates.length cd) := (hb4.cell (p := ⟨w.heap.size, 1, none⟩) (show w.heap.size < w2.heap.size by omega)).trans r1; have s2 : w4.cell? ⟨w.heap.size, 2, none⟩ = some (.slice ak m.pulls.length ck) := (hb4.cell (p := ⟨w.heap.size, 2, none⟩) (show w.heap.size < w2.heap.size by omega)).trans r2; have s3 : w4.cell? ⟨b, off + k, none⟩ = some (.int .i64 y) := (hb4.cell (p := ⟨b, off + k, none⟩) (show b < w2.heap.size by omega)).trans r3))
          go_wp2
          go_roundw
          case rel => exact ⟨k + 1, x2, l2, by omega, by go_num, rfl, rfl, by show _ = _; rw [H1.out, ← HX2.out, ← HL2.out], hx3, hl3, HB2'.out.drew.trans (hb4.mono (show w.heap.size + 1 ≤ w2.heap.size by omega))⟩
          case measure => simp [intOf]; omega
      · obtain rfl : k = p.length := by omega
        have HD : Hid (runP m p = ((xn : Int), (ln : Int), true)) := by show _ = _; simp [runP, h60, HR.out]
        go_wp2
        go_ret3
        exact ⟨ret_tup2 (by rw [HD.out] <;> rfl), HB.out⟩
end Go.Proofs.Ytmilpahggceemaa

namespace Go.KD
noncomputable def pIsPlan (m : Wk) (p : List Int) : Bool × Bool := if worksB m then ((runP m p).2.2, true) else (false, false)
end Go.KD
namespace Go.Proofs.Ytmilpahggceemaa
open Go.RowKit Go.KD
attribute [local go_sem] later_cell later_frozen
theorem specIsPlan_c (v : Value) (m : Wk) (a : Option Addr) (cap : Nat) (p : List Int) (w : World) (hm : WkAt w v m) (hA : IC w a p) (hl : p.length ≤ 1048576) (wl : ∀ y ∈ p, wfI y) :
    Calls Try.prog 27 #[v, .slice a p.length cap] w fun e w' => e = .returned (.tuple #[.bool (pIsPlan m p).1, .bool (pIsPlan m p).2]) ∧ Below w.heap.size w w' := by
  have hM := hm
  obtain ⟨⟨ad, cd, ak, ck, rfl, hd, hk'⟩, nd, nk⟩ := hM
  cases g : worksB m
  · have HD : Hid (pIsPlan m p = (false, false)) := by show _ = _; simp [pIsPlan, g]
    go_enter Try.func27, Try.ntmps27
    go_wp2_with fail
    refine (l8Works_c _ m _ (hm.later (by (repeat (first | exact Below.refl _ _ | apply Below.drew | apply below_drewN | (refine Below.setCell ?_ (by first | omega | (simp; done) | (simp; omega) | (dsimp only; omega)) _) | (refine Below.alloc ?_ (by first | omega | (simp; done) | (simp; omega) | (dsimp only; omega)) _)))))).mono ?_
    rintro e w1 ⟨rfl, hb1⟩
    have HB1 : Hid (Below w.heap.size w w1) := below_then (by (repeat (first | exact Below.refl _ _ | apply Below.drew | apply below_drewN | (refine Below.setCell ?_ (by first | omega | (simp; done) | (simp; omega) | (dsimp only; omega)) _) | (refine Below.alloc ?_ (by first | omega | (simp; done) | (simp; omega) | (dsimp only; omega)) _)))) hb1
    rw [g]
    go_wp2_with fail
    go_ret2
    exact ⟨ret_tup2 (by rw [HD.out] <;> rfl), HB1.out⟩
  · have HD : Hid (pIsPlan m p = ((runP m p).2.2, true)) := by show _ = _; simp [pIsPlan, g]
    have OK := Lib.hid (worksB_true.1 g)
    go_enter Try.func27, Try.ntmps27
    go_wp2_with fail
    refine (l8Works_c _ m _ (hm.later (by (repeat (first | exact Below.refl _ _ | apply Below.drew | apply below_drewN | (refine Below.setCell ?_ (by first | omega | (simp; done) | (simp; omega) | (dsimp only; omega)) _) | (refine Below.alloc ?_ (by first | omega | (simp; done) | (simp; omega) | (dsimp only; omega)) _)))))).mono ?_
    rintro e w1 ⟨rfl, hb1⟩
    have HB1 : Hid (Below w.heap.size w w1) := below_then (by (repeat (first | exact Below.refl _ _ | apply Below.drew | apply below_drewN | (refine Below.setCell ?_ (by first | omega | (simp; done) | (simp; omega) | (dsimp only; omega)) _) | (refine Below.alloc ?_ (by first | omega | (simp; done) | (simp; omega) | (dsimp only; omega)) _)))) hb1
    obtain ⟨hc1, hf1, hz1⟩ := bcell3 hb1
    rw [g]
    go_wp2_with fail
    refine (l8Run_c _ m _ _ p _ (hm.later HB1.out) OK.out (hA.later HB1.out) hl).mono ?_
    rintro e w2 ⟨rfl, hb2⟩
    go_wp2
    go_ret2
    exact ⟨ret_tup2 (by rw [HD.out] <;> rfl), below_then HB1.out hb2⟩
theorem implIsPlan_c (v : Value) (m : Wk) (a : Option Addr) (cap : Nat) (p : List Int) (w : World) (hm : WkAt w v m) (hA : IC w a p) (hl : p.length ≤ 1048576) (wl : ∀ y ∈ p, wfI y) :
    Calls Try.prog 26 #[v, .slice a p.length cap] w fun e w' => e = .returned (.tuple #[.bool (pIsPlan m p).1, .bool (pIsPlan m p).2]) ∧ Below w.heap.size w w' := by
  have hM := hm
  obtain ⟨⟨ad, cd, ak, ck, rfl, hd, hk'⟩, nd, nk⟩ := hM
  cases g : worksB m
  · have HD : Hid (pIsPlan m p = (false, false)) := by show _ = _; simp [pIsPlan, g]
    go_enter Try.func26, Try.ntmps26
    go_wp2_with fail
    refine (isWorks_c _ m _ (hm.later (by (repeat (first | exact Below.refl _ _ | apply Below.drew | apply below_drewN | (refine Below.setCell ?_ (by first | omega | (simp; done) | (simp; omega) | (dsimp only; omega)) _) | (refine Below.alloc ?_ (by first | omega | (simp; done) | (simp; omega) | (dsimp only; omega)) _)))))).mono ?_
    rintro e w1 ⟨rfl, hb1⟩
    have HB1 : Hid (Below w.heap.size w w1) := below_then (by (repeat (first | exact Below.refl _ _ | apply Below.drew | apply below_drewN | (refine Below.setCell ?_ (by first | omega | (simp; done) | (simp; omega) | (dsimp only; omega)) _) | (refine Below.alloc ?_ (by first | omega | (simp; done) | (simp; omega) | (dsimp only; omega)) _)))) hb1
    rw [g]
    go_wp2_with fail
    go_ret2
    exact ⟨ret_tup2 (by rw [HD.out] <;> rfl), HB1.out⟩
  · have HD : Hid (pIsPlan m p = ((runP m p).2.2, true)) := by show _ = _; simp [pIsPlan, g]
    have OK := Lib.hid (worksB_true.1 g)
    go_enter Try.func26, Try.ntmps26
    go_wp2_with fail
    refine (isWorks_c _ m _ (hm.later (by (repeat (first | exact Below.refl _ _ | apply Below.drew | apply below_drewN | (refine Below.setCell ?_ (by first | omega | (simp; done) | (simp; omega) | (dsimp only; omega)) _) | (refine Below.alloc ?_ (by first | omega | (simp; done) | (simp; omega) | (dsimp only; omega)) _)))))).mono ?_
    rintro e w1 ⟨rfl, hb1⟩
    have HB1 : Hid (Below w.heap.size w w1) := below_then (by (repeat (first | exact Below.refl _ _ | apply Below.drew | apply below_drewN | (refine Below.setCell ?_ (by first | omega | (simp; done) | (simp; omega) | (dsimp only; omega)) _) | (refine Below.alloc ?_ (by first | omega | (simp; done) | (simp; omega) | (dsimp only; omega)) _)))) hb1
    obtain ⟨hc1, hf1, hz1⟩ := bcell3 hb1
    rw [g]
    go_wp2_with fail
    refine (runPlan_c _ m _ _ p _ (hm.later HB1.out) OK.out (hA.later HB1.out) hl).mono ?_
    rintro e w2 ⟨rfl, hb2⟩
    go_wp2
    go_ret2
    exact ⟨ret_tup2 (by rw [HD.out] <;> rfl), below_then HB1.out hb2⟩
end Go.Proofs.Ytmilpahggceemaa

namespace Go.KD
noncomputable def pRunPlan (m : Wk) (p : List Int) : Int × Int × Bool := if worksB m then runP m p else (0, 0, false)
end Go.KD
namespace Go.Proofs.Ytmilpahggceemaa
open Go.RowKit Go.KD
attribute [local go_sem] later_cell later_frozen
theorem specRunPlan_c (v : Value) (m : Wk) (a : Option Addr) (cap : Nat) (p : List Int) (w : World) (hm : WkAt w v m) (hA : IC w a p) (hl : p.length ≤ 1048576) (wl : ∀ y ∈ p, wfI y) :
    Calls Try.prog 25 #[v, .slice a p.length cap] w fun e w' => e = .returned (.tuple #[.int .i64 (pRunPlan m p).1, .int .i64 (pRunPlan m p).2.1, .bool (pRunPlan m p).2.2]) ∧ Below w.heap.size w w' := by
  have hM := hm
  obtain ⟨⟨ad, cd, ak, ck, rfl, hd, hk'⟩, nd, nk⟩ := hM
  cases g : worksB m
  · have HD : Hid (pRunPlan m p = (0, 0, false)) := by show _ = _; simp [pRunPlan, g]
    go_enter Try.func25, Try.ntmps25
    go_wp2_with fail
    refine (l8Works_c _ m _ (hm.later (by (repeat (first | exact Below.refl _ _ | apply Below.drew | apply below_drewN | (refine Below.setCell ?_ (by first | omega | (simp; done) | (simp; omega) | (dsimp only; omega)) _) | (refine Below.alloc ?_ (by first | omega | (simp; done) | (simp; omega) | (dsimp only; omega)) _)))))).mono ?_
    rintro e w1 ⟨rfl, hb1⟩
    have HB1 : Hid (Below w.heap.size w w1) := below_then (by (repeat (first | exact Below.refl _ _ | apply Below.drew | apply below_drewN | (refine Below.setCell ?_ (by first | omega | (simp; done) | (simp; omega) | (dsimp only; omega)) _) | (refine Below.alloc ?_ (by first | omega | (simp; done) | (simp; omega) | (dsimp only; omega)) _)))) hb1
    rw [g]
    go_wp2_with fail
    go_ret3
    exact ⟨ret_tup2 (by rw [HD.out] <;> rfl), HB1.out⟩
  · have HD : Hid (pRunPlan m p = runP m p) := by show _ = _; simp [pRunPlan, g]
    have OK := Lib.hid (worksB_true.1 g)
    go_enter Try.func25, Try.ntmps25
    go_wp2_with fail
    refine (l8Works_c _ m _ (hm.later (by (repeat (first | exact Below.refl _ _ | apply Below.drew | apply below_drewN | (refine Below.setCell ?_ (by first | omega | (simp; done) | (simp; omega) | (dsimp only; omega)) _) | (refine Below.alloc ?_ (by first | omega | (simp; done) | (simp; omega) | (dsimp only; omega)) _)))))).mono ?_
    rintro e w1 ⟨rfl, hb1⟩
    have HB1 : Hid (Below w.heap.size w w1) := below_then (by (repeat (first | exact Below.refl _ _ | apply Below.drew | apply below_drewN | (refine Below.setCell ?_ (by first | omega | (simp; done) | (simp; omega) | (dsimp only; omega)) _) | (refine Below.alloc ?_ (by first | omega | (simp; done) | (simp; omega) | (dsimp only; omega)) _)))) hb1
    obtain ⟨hc1, hf1, hz1⟩ := bcell3 hb1
    rw [g]
    go_wp2_with fail
    refine (l8Run_c _ m _ _ p _ (hm.later HB1.out) OK.out (hA.later HB1.out) hl).mono ?_
    rintro e w2 ⟨rfl, hb2⟩
    go_wp2
    go_ret3
    exact ⟨ret_tup2 (by rw [HD.out] <;> rfl), below_then HB1.out hb2⟩
theorem implRunPlan_c (v : Value) (m : Wk) (a : Option Addr) (cap : Nat) (p : List Int) (w : World) (hm : WkAt w v m) (hA : IC w a p) (hl : p.length ≤ 1048576) (wl : ∀ y ∈ p, wfI y) :
    Calls Try.prog 24 #[v, .slice a p.length cap] w fun e w' => e = .returned (.tuple #[.int .i64 (pRunPlan m p).1, .int .i64 (pRunPlan m p).2.1, .bool (pRunPlan m p).2.2]) ∧ Below w.heap.size w w' := by
  have hM := hm
  obtain ⟨⟨ad, cd, ak, ck, rfl, hd, hk'⟩, nd, nk⟩ := hM
  cases g : worksB m
  · have HD : Hid (pRunPlan m p = (0, 0, false)) := by show _ = _; simp [pRunPlan, g]
    go_enter Try.func24, Try.ntmps24
    go_wp2_with fail
    refine (isWorks_c _ m _ (hm.later (by (repeat (first | exact Below.refl _ _ | apply Below.drew | apply below_drewN | (refine Below.setCell ?_ (by first | omega | (simp; done) | (simp; omega) | (dsimp only; omega)) _) | (refine Below.alloc ?_ (by first | omega | (simp; done) | (simp; omega) | (dsimp only; omega)) _)))))).mono ?_
    rintro e w1 ⟨rfl, hb1⟩
    have HB1 : Hid (Below w.heap.size w w1) := below_then (by (repeat (first | exact Below.refl _ _ | apply Below.drew | apply below_drewN | (refine Below.setCell ?_ (by first | omega | (simp; done) | (simp; omega) | (dsimp only; omega)) _) | (refine Below.alloc ?_ (by first | omega | (simp; done) | (simp; omega) | (dsimp only; omega)) _)))) hb1
    rw [g]
    go_wp2_with fail
    go_ret3
    exact ⟨ret_tup2 (by rw [HD.out] <;> rfl), HB1.out⟩
  · have HD : Hid (pRunPlan m p = runP m p) := by show _ = _; simp [pRunPlan, g]
    have OK := Lib.hid (worksB_true.1 g)
    go_enter Try.func24, Try.ntmps24
    go_wp2_with fail
    refine (isWorks_c _ m _ (hm.later (by (repeat (first | exact Below.refl _ _ | apply Below.drew | apply below_drewN | (refine Below.setCell ?_ (by first | omega | (simp; done) | (simp; omega) | (dsimp only; omega)) _) | (refine Below.alloc ?_ (by first | omega | (simp; done) | (simp; omega) | (dsimp only; omega)) _)))))).mono ?_
    rintro e w1 ⟨rfl, hb1⟩
    have HB1 : Hid (Below w.heap.size w w1) := below_then (by (repeat (first | exact Below.refl _ _ | apply Below.drew | apply below_drewN | (refine Below.setCell ?_ (by first | omega | (simp; done) | (simp; omega) | (dsimp only; omega)) _) | (refine Below.alloc ?_ (by first | omega | (simp; done) | (simp; omega) | (dsimp only; omega)) _)))) hb1
    obtain ⟨hc1, hf1, hz1⟩ := bcell3 hb1
    rw [g]
    go_wp2_with fail
    refine (runPlan_c _ m _ _ p _ (hm.later HB1.out) OK.out (hA.later HB1.out) hl).mono ?_
    rintro e w2 ⟨rfl, hb2⟩
    go_wp2
    go_ret3
    exact ⟨ret_tup2 (by rw [HD.out] <;> rfl), below_then HB1.out hb2⟩
end Go.Proofs.Ytmilpahggceemaa

namespace Go.KD
open Go.RowKit
def mkMz (m : Mz) (k : Int) : Mz := ⟨m.size, marks3 m.doors.length k, marks m.keys.length (k + (m.doors.length : Int) * 3)⟩
def mkWk (m : Wk) (k : Int) : Wk := ⟨m.size, marks4 m.gates.length k, marks m.pulls.length (k + (m.gates.length : Int) * 4)⟩
theorem MzOwn.chg {lo hi lo' hi' : Nat} {w w' : World} {v : Value} {m : Mz} (h : MzOwn lo hi w v m) (hc : Chg lo' hi' w w') (hd : hi ≤ lo' ∨ hi' ≤ lo) : MzOwn lo hi w' v m := by
  obtain ⟨e3, e1, vd, vk, hv, o1, o2, h4⟩ := h
  exact ⟨e3, e1, vd, vk, hv, o1.chg hc hd, o2.chg hc hd, h4⟩
theorem WkOwn.chg {lo hi lo' hi' : Nat} {w w' : World} {v : Value} {m : Wk} (h : WkOwn lo hi w v m) (hc : Chg lo' hi' w w') (hd : hi ≤ lo' ∨ hi' ≤ lo) : WkOwn lo hi w' v m := by
  obtain ⟨e3, e1, vd, vk, hv, o1, o2, h4⟩ := h
  exact ⟨e3, e1, vd, vk, hv, o1.chg hc hd, o2.chg hc hd, h4⟩
end Go.KD
namespace Go.Proofs.Ytmilpahggceemaa
open Go.RowKit Go.KD
attribute [local go_sem] later_cell later_frozen

end Go.Proofs.Ytmilpahggceemaa
namespace Go.KD
open Go.RowKit
def swapL (f : List Int) (i k : Nat) : List Int := (f.set i f[k]!).set k f[i]!
def placeN (x : Nat) (a : Int) : Nat := (idxP (eqP a) (mem x)).toNat
noncomputable def pSwapFilling (m : Mz) (set : Int) (f : List Int) (a b : Int) : List Int × Bool :=
  if askB m set && fillB m set f && !(a == b) && hasI (mem set.toNat) a && hasI (mem set.toNat) b then (swapL f (placeN set.toNat a) (placeN set.toNat b), true) else ([], false)
@[simp] theorem swapL_len (f : List Int) (i k : Nat) : (swapL f i k).length = f.length := by simp [swapL]
theorem pSwapFilling_len (m : Mz) (set : Int) (f : List Int) (a b : Int) : (pSwapFilling m set f a b).1.length ≤ 1000000 := by
  unfold pSwapFilling; split
  · rename_i h
    simp only [Bool.and_eq_true, fillB, decide_eq_true_eq] at h
    have := popc_le set.toNat
    simp only [swapL_len]; omega
  · simp
theorem memK6 {x : Nat} (hx : x < 64) : memK x 6 = mem x := by
  rw [mem_eq]
  have h0 : x >>> 6 = 0 := by rw [Nat.shiftRight_eq_div_pow]; omega
  exact (memK_end h0 34).symm
theorem idx_has {l : List Int} {a : Int} (h : hasI l a = true) : ∃ i, i < l.length ∧ idxP (eqP a) l = (i : Int) ∧ l[i]! = a ∧ ∀ j, j < i → l[j]! ≠ a := by
  rw [hasI_iff] at h
  cases hf : l.findIdx? (eqP a) with
  | none =>
    rw [List.findIdx?_eq_none_iff] at hf
    have := hf a h
    simp [eqP] at this
  | some k =>
    obtain ⟨hk, h1, h2⟩ := List.findIdx?_eq_some_iff_getElem.1 hf
    refine ⟨k, hk, by unfold idxP; rw [hf], ?_, fun j hj => ?_⟩
    · rw [getElem!_pos l k hk]; simpa [eqP] using h1
    · rw [getElem!_pos l j (by omega)]; have := h2 j hj; simpa [eqP] using this
theorem idx_not {l : List Int} {a : Int} (h : hasI l a = false) : idxP (eqP a) l = -1 := by
  refine idxP_none fun j hj => ?_
  cases he : eqP a l[j]! with
  | false => rfl
  | true => rw [hasI_at hj (by simpa [eqP] using he)] at h; cases h
end Go.KD
namespace Go.Proofs.Ytmilpahggceemaa
open Go.RowKit Go.KD
attribute [local go_sem] later_cell later_frozen
set_option maxHeartbeats 1000000 in
theorem l1Own_c (a : Option Addr) (cap n : Nat) (l : List Int) (w : World) (hn : n = l.length) (hA : IC w a l) (hl : n ≤ 1048576) : Calls Try.prog 154 #[.slice a n cap] w fun e w' =>
    ∃ v, e = .returned v ∧ w'.ownsRow w.heap.size 3 1 v n (ints l) ∧ Below w.heap.size w w' := by
  obtain ⟨i0, hi, hz0, hz1, hz2⟩ := info_parts infoI
  have HN := Lib.hid hn; clear hn
  cases a with
  | none =>
    have h0 : l = [] := by
      cases l with
      | nil => rfl
      | cons x l => obtain ⟨b, off, h, _⟩ := hA 0 (by simp); cases h
    subst h0
    have h00 : n = 0 := HN.out
    subst h00
    go_enter Try.func154, Try.ntmps154
    go_wp2
    go_ret
    exact ⟨_, rfl, World.ownsRow_lit w #[] 0 (Nat.le_refl _) (by unfold maxLen; omega) rfl, (Below.refl _ _).alloc (Nat.le_refl _) _⟩
  | some ad =>
    have hnews : Hid (∀ j u, (ints l)[j]? = some u → w.cell? (ad.add j) = some u) := by
      intro j u hu
      have hj : j < l.length := by
        rcases Nat.lt_or_ge j l.length with h | h
        · exact h
        · rw [List.getElem?_eq_none (by simpa using h)] at hu; cases hu
      obtain ⟨b, off, hb, hbs, hc⟩ := hA j hj
      cases hb
      rw [add_at rfl, hc, ← hu, ints, List.getElem?_map, List.getElem?_eq_getElem hj, getElem!_pos l j hj]
      rfl
    have hlt : Hid (∀ j u, (ints l)[j]? = some u → ad.block < w.heap.size) := fun j u hu => World.block_lt_of_cell? w (ad.add j) (hnews.out j u hu) |> fun h => by unfold Addr.add at h; split at h <;> exact h
    go_enter Try.func154, Try.ntmps154
    go_wp2_with (at_builtin; refine wpList_append_own _ rfl _ _ 24 rfl w.heap.size 3 i0 (.int .i64 0) 1 8 Try.underlying24 hi hz0 hz1 hz2 rfl (by decide) _ _ _ rfl (World.ownsRow_lit w #[] 0 (Nat.le_refl _) (by unfold maxLen; omega) rfl) ad n cap (ints l) rfl ?_ ?_ ?_ ?_ ?_ ?_ ?_; (rw [length_ints, HN.out]; omega); (intro j u hu; rw [World.cell?_alloc_lt _ _ _ (by have := hlt.out j u hu; unfold Addr.add; split <;> exact this)]; exact hnews.out j u hu); (intro u hu; simp only [ints, List.mem_map] at hu; obtain ⟨x, _, rfl⟩ := hu; rfl); (unfold maxLen; omega); omega; (simp); intro v' w1 hown' hgrow _)
    go_ret
    refine ⟨_, rfl, by simpa using hown', ((Below.refl _ _).alloc (Nat.le_refl _) _).grown hgrow (by simp) (fun g hg => by cases hg; exact Nat.le_refl _)⟩

end Go.Proofs.Ytmilpahggceemaa
