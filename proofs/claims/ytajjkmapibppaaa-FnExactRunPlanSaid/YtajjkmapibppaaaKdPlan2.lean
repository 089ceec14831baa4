/- RunPlan. -/
import Derived.Test.YtajjkmapibppaaaKdRun2
set_option linter.unusedVariables false
set_option linter.unusedSimpArgs false
namespace Go.KD
noncomputable def pRunPlan (m : Wk) (p : List Int) : Int × Int × Bool := if worksB m then runP m p else (0, 0, false)
end Go.KD
namespace Go.Proofs.Ytajjkmapibppaaa
open Go.RowKit Go.KD
attribute [local go_sem] later_cell later_frozen
theorem specRunPlan_c (v : Value) (m : Wk) (a : Option Addr) (cap : Nat) (p : List Int) (w : World) (hm : WkAt w v m) (hA : IC w a p) (hl : p.length ≤ 1048576) (wl : ∀ y ∈ p, wfI y) :
    Calls Try.prog 27 #[v, .slice a p.length cap] w fun e w' => e = .returned (.tuple #[.int .i64 (pRunPlan m p).1, .int .i64 (pRunPlan m p).2.1, .bool (pRunPlan m p).2.2]) ∧ Below w.heap.size w w' := by
  have hM := hm
  obtain ⟨⟨ad, cd, ak, ck, rfl, hd, hk'⟩, nd, nk⟩ := hM
  cases g : worksB m
  · have HD : Hid (pRunPlan m p = (0, 0, false)) := by show _ = _; simp [pRunPlan, g]
    go_enter Try.func27, Try.ntmps27
    go_wp2_with fail
    refine (l8Works_c _ m _ (hm.later (by (repeat (first | exact Below.refl _ _ | apply Below.drew | apply below_drewN | (refine Below.setCell ?_ (by first | omega | (simp; done) | (simp; omega) | (dsimp only; omega)) _) | (refine Below.alloc ?_ (by first | omega | (simp; done) | (simp; omega) | (dsimp only; omega)) _)))))).mono ?_
    rintro e w1 ⟨rfl, hb1⟩
    have HB1 : Hid (Below w.heap.size w w1) := below_then (by (repeat (first | exact Below.refl _ _ | apply Below.drew | apply below_drewN | (refine Below.setCell ?_ (by first | omega | (simp; done) | (simp; omega) | (dsimp only; omega)) _) | (refine Below.alloc ?_ (by first | omega | (simp; done) | (simp; omega) | (dsimp only; omega)) _)))) hb1
    rw [g]
    go_wp2_with fail
    go_ret3
    exact ⟨ret_tup2 (by rw [HD.out] <;> rfl), HB1.out⟩
  · have HD : Hid (pRunPlan m p = runP m p) := by show _ = _; simp [pRunPlan, g]
    have OK := Lib.hid (worksB_true.1 g)
    go_enter Try.func27, Try.ntmps27
    go_wp2_with fail
    refine (l8Works_c _ m _ (hm.later (by (repeat (first | exact Below.refl _ _ | apply Below.drew | apply below_drewN | (refine Below.setCell ?_ (by first | omega | (simp; done) | (simp; omega) | (dsimp only; omega)) _) | (refine Below.alloc ?_ (by first | omega | (simp; done) | (simp; omega) | (dsimp only; omega)) _)))))).mono ?_
    rintro e w1 ⟨rfl, hb1⟩
    have HB1 : Hid (Below w.heap.size w w1) := below_then (by (repeat (first | exact Below.refl _ _ | apply Below.drew | apply below_drewN | (refine Below.setCell ?_ (by first | omega | (simp; done) | (simp; omega) | (dsimp only; omega)) _) | (refine Below.alloc ?_ (by first | omega | (simp; done) | (simp; omega) | (dsimp only; omega)) _)))) hb1
    obtain ⟨hc1, hf1, hz1⟩ := bcell3 hb1
    rw [g]
    go_wp2_with fail
    refine (l8Run_c _ m _ _ p _ (hm.later HB1.out) OK.out (hA.later HB1.out) hl).mono ?_
    rintro e w2 ⟨rfl, hb2⟩
    go_wp2
    go_ret3
    exact ⟨ret_tup2 (by rw [HD.out] <;> rfl), below_then HB1.out hb2⟩
theorem implRunPlan_c (v : Value) (m : Wk) (a : Option Addr) (cap : Nat) (p : List Int) (w : World) (hm : WkAt w v m) (hA : IC w a p) (hl : p.length ≤ 1048576) (wl : ∀ y ∈ p, wfI y) :
    Calls Try.prog 29 #[v, .slice a p.length cap] w fun e w' => e = .returned (.tuple #[.int .i64 (pRunPlan m p).1, .int .i64 (pRunPlan m p).2.1, .bool (pRunPlan m p).2.2]) ∧ Below w.heap.size w w' := by
  have hM := hm
  obtain ⟨⟨ad, cd, ak, ck, rfl, hd, hk'⟩, nd, nk⟩ := hM
  cases g : worksB m
  · have HD : Hid (pRunPlan m p = (0, 0, false)) := by show _ = _; simp [pRunPlan, g]
    go_enter Try.func29, Try.ntmps29
    go_wp2_with fail
    refine (isWorks_c _ m _ (hm.later (by (repeat (first | exact Below.refl _ _ | apply Below.drew | apply below_drewN | (refine Below.setCell ?_ (by first | omega | (simp; done) | (simp; omega) | (dsimp only; omega)) _) | (refine Below.alloc ?_ (by first | omega | (simp; done) | (simp; omega) | (dsimp only; omega)) _)))))).mono ?_
    rintro e w1 ⟨rfl, hb1⟩
    have HB1 : Hid (Below w.heap.size w w1) := below_then (by (repeat (first | exact Below.refl _ _ | apply Below.drew | apply below_drewN | (refine Below.setCell ?_ (by first | omega | (simp; done) | (simp; omega) | (dsimp only; omega)) _) | (refine Below.alloc ?_ (by first | omega | (simp; done) | (simp; omega) | (dsimp only; omega)) _)))) hb1
    rw [g]
    go_wp2_with fail
    go_ret3
    exact ⟨ret_tup2 (by rw [HD.out] <;> rfl), HB1.out⟩
  · have HD : Hid (pRunPlan m p = runP m p) := by show _ = _; simp [pRunPlan, g]
    have OK := Lib.hid (worksB_true.1 g)
    go_enter Try.func29, Try.ntmps29
    go_wp2_with fail
    refine (isWorks_c _ m _ (hm.later (by (repeat (first | exact Below.refl _ _ | apply Below.drew | apply below_drewN | (refine Below.setCell ?_ (by first | omega | (simp; done) | (simp; omega) | (dsimp only; omega)) _) | (refine Below.alloc ?_ (by first | omega | (simp; done) | (simp; omega) | (dsimp only; omega)) _)))))).mono ?_
    rintro e w1 ⟨rfl, hb1⟩
    have HB1 : Hid (Below w.heap.size w w1) := below_then (by (repeat (first | exact Below.refl _ _ | apply Below.drew | apply below_drewN | (refine Below.setCell ?_ (by first | omega | (simp; done) | (simp; omega) | (dsimp only; omega)) _) | (refine Below.alloc ?_ (by first | omega | (simp; done) | (simp; omega) | (dsimp only; omega)) _)))) hb1
    obtain ⟨hc1, hf1, hz1⟩ := bcell3 hb1
    rw [g]
    go_wp2_with fail
    refine (runPlan_c _ m _ _ p _ (hm.later HB1.out) OK.out (hA.later HB1.out) hl).mono ?_
    rintro e w2 ⟨rfl, hb2⟩
    go_wp2
    go_ret3
    exact ⟨ret_tup2 (by rw [HD.out] <;> rfl), below_then HB1.out hb2⟩
end Go.Proofs.Ytajjkmapibppaaa
