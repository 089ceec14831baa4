/- Plans: spec.l8Run. -/
import Derived.Test.YtajjkmapibppaaaKdRun
import Derived.Deep.RegionHeld3
set_option linter.unusedVariables false
set_option linter.unusedSimpArgs false
namespace Go.Proofs.Ytajjkmapibppaaa
open Go.RowKit Go.KD
attribute [local go_sem] later_cell later_frozen
set_option maxRecDepth 100000 in
set_option maxHeartbeats 4000000 in
theorem l8Run_c (v : Value) (m : Wk) (a : Option Addr) (cap : Nat) (p : List Int) (w : World) (hm : WkAt w v m) (ok : WkOk m) (hA : IC w a p) (hl : p.length ≤ 1048576) :
    Calls Try.prog 81 #[v, .slice a p.length cap] w fun e w' => e = .returned (.tuple #[.int .i64 (runP m p).1, .int .i64 (runP m p).2.1, .bool (runP m p).2.2]) ∧ Below w.heap.size w w' := by
  have hM := hm
  obtain ⟨⟨ad, cd, ak, ck, rfl, hd, hk'⟩, nd, nk⟩ := hM
  have OK := Lib.hid ok; clear ok
  by_cases h60 : p.length ≤ 60
  case neg =>
    have g : decide ((60 : Int) < (p.length : Int)) = true := by simp; omega
    have HD : Hid (runP m p = (0, 0, false)) := by show _ = _; simp [runP, h60]
    clear h60
    go_enter Try.func81, Try.ntmps81
    go_wp2
    go_ret3
    exact ⟨ret_tup2 (by rw [HD.out] <;> rfl), by (repeat (first | exact Below.refl _ _ | apply Below.drew | apply below_drewN | (refine Below.setCell ?_ (by first | omega | (simp; done) | (simp; omega) | (dsimp only; omega)) _) | (refine Below.alloc ?_ (by first | omega | (simp; done) | (simp; omega) | (dsimp only; omega)) _)))⟩
  case pos =>
    have g : decide ((60 : Int) < (p.length : Int)) = false := by simp; omega
    go_enter Try.func81, Try.ntmps81
    go_wp2
    go_loopw [7, 8, 9] (fun x l i wr => ∃ k xn ln : Nat, k ≤ p.length ∧ i = .int .i64 k ∧ x = .int .i64 xn ∧ l = .int .i64 ln ∧ Hid (runK m p k = some ((xn : Int), (ln : Int))) ∧ (xn : Int) < m.size ∧ ln < 64 ∧ Below (w.heap.size + 1) (w.alloc (.cells #[.int .i64 m.size, .slice ad m.gates.length cd, .slice ak m.pulls.length ck] 29)) wr) (fun _ _ i _ => p.length - (intOf i).toNat)
    case atStart => exact ⟨0, 0, 0, Nat.zero_le _, rfl, rfl, rfl, rfl, by have := OK.out.s1; simp; omega, by omega, Below.refl _ _⟩
    case round =>
      obtain ⟨wo, rfl⟩ : ∃ wo : World, wo = wr := ⟨_, rfl⟩
      obtain ⟨k, xn, ln, hkl, rfl, rfl, rfl, HR, hx, hln, hb⟩ := hrel
      obtain ⟨hc, hf, hz⟩ := bcell3 hb
      simp only [World.size_alloc] at hz
      have hz1 : w.heap.size < wo.heap.size := by omega
      have HB : Hid (Below w.heap.size w wo) := (by (repeat (first | exact Below.refl _ _ | apply Below.drew | apply below_drewN | (refine Below.setCell ?_ (by first | omega | (simp; done) | (simp; omega) | (dsimp only; omega)) _) | (refine Below.alloc ?_ (by first | omega | (simp; done) | (simp; omega) | (dsimp only; omega)) _))) : Below w.heap.size w (w.alloc _)).trans (hb.mono (by omega))
      have HBo := Lib.hid hb
      by_cases hlt : k < p.length
      · obtain ⟨b, off, y, rfl, HY, hbs, e0⟩ := (hA.later HB.out).at k hlt
        have h41 := actsL_len m xn ln
        cases p1 : hasI (actsL m xn ln) y
        · have HD : Hid (runP m p = (0, 0, false)) := by
            show _ = _
            have h1 : runK m p (k + 1) = none := by unfold runK; rw [HR.out]; simp [HY.out, p1]
            have h2 := runK_none h1 (p.length - (k + 1))
            rw [show k + 1 + (p.length - (k + 1)) = p.length from by omega] at h2
            simp [runP, h2]
          have q0 : wo.cell? ⟨w.heap.size, 0, none⟩ = some (.int .i64 m.size) := by rw [HBo.out.cell (p := ⟨w.heap.size, 0, none⟩) (by simp)]; simp [go_sem]
          have q1 : wo.cell? ⟨w.heap.size, 1, none⟩ = some (.slice ad m.gates.length cd) := by rw [HBo.out.cell (p := ⟨w.heap.size, 1, none⟩) (by simp)]; simp [go_sem]
          have q2 : wo.cell? ⟨w.heap.size, 2, none⟩ = some (.slice ak m.pulls.length ck) := by rw [HBo.out.cell (p := ⟨w.heap.size, 2, none⟩) (by simp)]; simp [go_sem]
          have q3 : wo.cell? ⟨b, off + k, none⟩ = some (.int .i64 y) := e0
          go_wp2
          go_region_held3 (fun W => W.cell? ⟨w.heap.size, 0, none⟩ = some (.int .i64 m.size) ∧ W.cell? ⟨w.heap.size, 1, none⟩ = some (.slice ad m.gates.length cd) ∧ W.cell? ⟨w.heap.size, 2, none⟩ = some (.slice ak m.pulls.length ck) ∧ W.cell? ⟨b, off + k, none⟩ = some (.int .i64 y))
            (first | exact ⟨q0, q1, q2, q3⟩ | exact ⟨r0, r1, r2, r3⟩)
            (first | (go_at_call 70; refine (l8Acts_c _ m xn ln _ (hm.later HB.out.drew) OK.out hx hln).mono ?_; rintro e w2 ⟨u, rfl, ⟨bu, ou, cu, rfl, hi, -, -⟩, hb2⟩; have HI := Lib.hid hi; clear hi; have r0 : w2.cell? ⟨w.heap.size, 0, none⟩ = some (.int .i64 m.size) := (hb2.cell (p := ⟨w.heap.size, 0, none⟩) (show w.heap.size < wo.heap.size by assumption)).trans q0; have r1 : w2.cell? ⟨w.heap.size, 1, none⟩ = some (.slice ad m.gates.length cd) := (hb2.cell (p := ⟨w.heap.size, 1, none⟩) (show w.heap.size < wo.heap.size by assumption)).trans q1; have r2 : w2.cell? ⟨w.heap.size, 2, none⟩ = some (.slice ak m.pulls.length ck) := (hb2.cell (p := ⟨w.heap.size, 2, none⟩) (show w.heap.size < wo.heap.size by assumption)).trans q2; have r3 : w2.cell? ⟨b, off + k, none⟩ = some (.int .i64 y) := (hb2.cell (p := ⟨b, off + k, none⟩) (show b < wo.heap.size by assumption)).trans q3) | (go_at_call 76; refine (l1Has_c _ _ _ (actsL m xn ln) _ _ rfl HI.out (by omega)).mono ?_; rintro e w3 ⟨rfl, rfl⟩; rw [p1]))
          go_wp2
          go_ret3
          exact ⟨ret_tup2 (by rw [HD.out] <;> rfl), below_then HB.out.drew hb2⟩
        · have h1 : runK m p (k + 1) = some (doP m xn ln y) := by unfold runK; rw [HR.out]; simp [HY.out, p1]
          obtain ⟨x2, l2, hx2, hl2, hx3, hl3⟩ := runK_ok OK.out p (k + 1) (doP m xn ln y).1 (doP m xn ln y).2 h1
          have HX2 := Lib.hid hx2; have HL2 := Lib.hid hl2; clear hx2 hl2
          have H1 := Lib.hid h1; clear h1
          have q0 : wo.cell? ⟨w.heap.size, 0, none⟩ = some (.int .i64 m.size) := by rw [HBo.out.cell (p := ⟨w.heap.size, 0, none⟩) (by simp)]; simp [go_sem]
          have q1 : wo.cell? ⟨w.heap.size, 1, none⟩ = some (.slice ad m.gates.length cd) := by rw [HBo.out.cell (p := ⟨w.heap.size, 1, none⟩) (by simp)]; simp [go_sem]
          have q2 : wo.cell? ⟨w.heap.size, 2, none⟩ = some (.slice ak m.pulls.length ck) := by rw [HBo.out.cell (p := ⟨w.heap.size, 2, none⟩) (by simp)]; simp [go_sem]
          have q3 : wo.cell? ⟨b, off + k, none⟩ = some (.int .i64 y) := e0
          go_wp2
          go_region_held3 (fun W => W.cell? ⟨w.heap.size, 0, none⟩ = some (.int .i64 m.size) ∧ W.cell? ⟨w.heap.size, 1, none⟩ = some (.slice ad m.gates.length cd) ∧ W.cell? ⟨w.heap.size, 2, none⟩ = some (.slice ak m.pulls.length ck) ∧ W.cell? ⟨b, off + k, none⟩ = some (.int .i64 y))
            (first | exact ⟨q0, q1, q2, q3⟩ | exact ⟨r0, r1, r2, r3⟩)
            (first | (go_at_call 70; refine (l8Acts_c _ m xn ln _ (hm.later HB.out.drew) OK.out hx hln).mono ?_; rintro e w2 ⟨u, rfl, ⟨bu, ou, cu, rfl, hi, -, -⟩, hb2⟩; have HI := Lib.hid hi; clear hi; have r0 : w2.cell? ⟨w.heap.size, 0, none⟩ = some (.int .i64 m.size) := (hb2.cell (p := ⟨w.heap.size, 0, none⟩) (show w.heap.size < wo.heap.size by assumption)).trans q0; have r1 : w2.cell? ⟨w.heap.size, 1, none⟩ = some (.slice ad m.gates.length cd) := (hb2.cell (p := ⟨w.heap.size, 1, none⟩) (show w.heap.size < wo.heap.size by assumption)).trans q1; have r2 : w2.cell? ⟨w.heap.size, 2, none⟩ = some (.slice ak m.pulls.length ck) := (hb2.cell (p := ⟨w.heap.size, 2, none⟩) (show w.heap.size < wo.heap.size by assumption)).trans q2; have r3 : w2.cell? ⟨b, off + k, none⟩ = some (.int .i64 y) := (hb2.cell (p := ⟨b, off + k, none⟩) (show b < wo.heap.size by assumption)).trans q3) | (go_at_call 76; refine (l1Has_c _ _ _ (actsL m xn ln) _ _ rfl HI.out (by omega)).mono ?_; rintro e w3 ⟨rfl, rfl⟩; rw [p1]))
          have HB2 : Hid (Below w.heap.size w w2) := below_then HB.out.drew hb2
          have hz2 : wo.heap.size ≤ w2.heap.size := hb2.size
          have HB2' : Hid (Below (w.heap.size + 1) (w.alloc (.cells #[.int .i64 m.size, .slice ad m.gates.length cd, .slice ak m.pulls.length ck] 29)) w2) := HBo.out.drew.trans (hb2.mono (show w.heap.size + 1 ≤ wo.heap.size by omega))
          clear hb2 hc hf
          go_wp2
          go_region_held3 (fun W => W.cell? ⟨w.heap.size, 0, none⟩ = some (.int .i64 m.size) ∧ W.cell? ⟨w.heap.size, 1, none⟩ = some (.slice ad m.gates.length cd) ∧ W.cell? ⟨w.heap.size, 2, none⟩ = some (.slice ak m.pulls.length ck) ∧ W.cell? ⟨b, off + k, none⟩ = some (.int .i64 y))
            (first | exact ⟨r0, r1, r2, r3⟩ | exact ⟨s0, s1, s2, s3⟩)
            ((go_at_call 77; refine (l8Do_c _ m xn ln y _ (hm.later HB2.out.drew) OK.out hx hln).mono ?_; rintro e w4 ⟨rfl, hb4⟩; rw [HX2.out, HL2.out]; have s0 : w4.cell? ⟨w.heap.size, 0, none⟩ = some (.int .i64 m.size) := (hb4.cell (p := ⟨w.heap.size, 0, none⟩) (show w.heap.size < w2.heap.size by omega)).trans r0; have s1 : w4.cell? ⟨w.heap.size, 1, none⟩ = some (.slice ad m.gates.length cd) := (hb4.cell (p := ⟨w.heap.size, 1, none⟩) (show w.heap.size < w2.heap.size by omega)).trans r1; have s2 : w4.cell? ⟨w.heap.size, 2, none⟩ = some (.slice ak m.pulls.length ck) := (hb4.cell (p := ⟨w.heap.size, 2, none⟩) (show w.heap.size < w2.heap.size by omega)).trans r2; have s3 : w4.cell? ⟨b, off + k, none⟩ = some (.int .i64 y) := (hb4.cell (p := ⟨b, off + k, none⟩) (show b < w2.heap.size by omega)).trans r3))
          go_wp2
          go_roundw
          case rel => exact ⟨k + 1, x2, l2, by omega, by go_num, rfl, rfl, by show _ = _; rw [H1.out, ← HX2.out, ← HL2.out], hx3, hl3, HB2'.out.drew.trans (hb4.mono (show w.heap.size + 1 ≤ w2.heap.size by omega))⟩
          case measure => simp [intOf]; omega
      · obtain rfl : k = p.length := by omega
        have HD : Hid (runP m p = ((xn : Int), (ln : Int), true)) := by show _ = _; simp [runP, h60, HR.out]
        go_wp2
        go_ret3
        exact ⟨ret_tup2 (by rw [HD.out] <;> rfl), HB.out⟩
end Go.Proofs.Ytajjkmapibppaaa
