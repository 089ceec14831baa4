/- Contracts of FillingWins and FillingDepth. Printed by gen_fillw.py. -/
import Derived.Test.YtbjcabphiddjgaaKdLay2
import Derived.Test.YtbjcabphiddjgaaKdSwap
set_option linter.unusedVariables false
set_option linter.unusedSimpArgs false
namespace Go.KD
open Go.RowKit
noncomputable def pFillingWins (m : Mz) (set : Int) (f : List Int) : Bool × Bool := if askB m set && fillB m set f then (decide (0 < depN m set.toNat f), true) else (false, false)
noncomputable def pFillingDepth (m : Mz) (set : Int) (f : List Int) : Int × Bool := if askB m set && fillB m set f then (depN m set.toNat f, decide (0 < depN m set.toNat f)) else (0, false)
theorem ask_ok {m : Mz} {x : Int} (h : askB m x = true) : MzOk m ∧ 0 ≤ x ∧ x ≤ 63 := by
  simp only [askB, Bool.and_eq_true] at h
  exact ⟨mazeB_true.1 h.1, setB_true.1 h.2⟩
end Go.KD
namespace Go.Proofs.Ytbjcabphiddjgaa
open Go.RowKit Go.KD
attribute [local go_sem] later_cell later_frozen
set_option maxRecDepth 100000 in
set_option maxHeartbeats 4000000 in
theorem implFillingWins_c (v : Value) (m : Mz) (x : Int) (a : Option Addr) (cap : Nat) (l : List Int) (w : World) (hm : MzAt w v m) (wx : wfI x) (hA : IC w a l) (hl : l.length ≤ 1048576) (wl : ∀ y ∈ l, wfI y) :
    Calls Try.prog 45 #[v, .int .i64 x, .slice a l.length cap] w fun e w' => e = .returned (.tuple #[.bool (pFillingWins m x l).1, .bool (pFillingWins m x l).2]) ∧ Below w.heap.size w w' := by
  have hM := hm
  obtain ⟨⟨ad, cd, ak, ck, rfl, hd, hk'⟩, nd, nk⟩ := hM
  cases g1 : askB m x
  case false =>
    have HP : Hid (pFillingWins m x l = (false, false)) := by show _ = _; simp [pFillingWins, g1]
    rw [HP.out]
    go_enter Try.func45, Try.ntmps45
    go_wp2_with fail
    refine (asked_c _ m _ _ (hm.later (by (repeat (first | exact Below.refl _ _ | apply Below.drew | apply below_drewN | (refine Below.setCell ?_ (by first | omega | (simp; done) | (simp; omega) | (dsimp only; omega)) _) | (refine Below.alloc ?_ (by first | omega | (simp; done) | (simp; omega) | (dsimp only; omega)) _)))))).mono ?_
    rintro e w1 ⟨rfl, hb1⟩
    have HB1 : Hid (Below w.heap.size w w1) := below_then (by (repeat (first | exact Below.refl _ _ | apply Below.drew | apply below_drewN | (refine Below.setCell ?_ (by first | omega | (simp; done) | (simp; omega) | (dsimp only; omega)) _) | (refine Below.alloc ?_ (by first | omega | (simp; done) | (simp; omega) | (dsimp only; omega)) _)))) hb1
    obtain ⟨hc1, hf1, hz1⟩ := bcell3 hb1
    rw [g1]
    go_wp2_with fail
    go_ret2
    exact ⟨rfl, HB1.out⟩
  cases g2 : fillB m x l
  case false =>
    have HP : Hid (pFillingWins m x l = (false, false)) := by show _ = _; simp [pFillingWins, g1, g2]
    rw [HP.out]
    go_enter Try.func45, Try.ntmps45
    go_wp2_with fail
    refine (asked_c _ m _ _ (hm.later (by (repeat (first | exact Below.refl _ _ | apply Below.drew | apply below_drewN | (refine Below.setCell ?_ (by first | omega | (simp; done) | (simp; omega) | (dsimp only; omega)) _) | (refine Below.alloc ?_ (by first | omega | (simp; done) | (simp; omega) | (dsimp only; omega)) _)))))).mono ?_
    rintro e w1 ⟨rfl, hb1⟩
    have HB1 : Hid (Below w.heap.size w w1) := below_then (by (repeat (first | exact Below.refl _ _ | apply Below.drew | apply below_drewN | (refine Below.setCell ?_ (by first | omega | (simp; done) | (simp; omega) | (dsimp only; omega)) _) | (refine Below.alloc ?_ (by first | omega | (simp; done) | (simp; omega) | (dsimp only; omega)) _)))) hb1
    obtain ⟨hc1, hf1, hz1⟩ := bcell3 hb1
    rw [g1]
    go_wp2_with fail
    refine (isFilling_c _ m _ _ _ l _ (hm.later HB1.out) g1 (hA.later HB1.out) hl).mono ?_
    rintro e w2 ⟨rfl, hb2⟩
    have HB2 : Hid (Below w.heap.size w w2) := below_then HB1.out hb2
    rw [g2]
    go_wp2_with fail
    go_ret2
    exact ⟨rfl, HB2.out⟩
  obtain ⟨ok, x0, x1⟩ := ask_ok g1
  obtain ⟨xn, rfl⟩ := Int.eq_ofNat_of_zero_le x0
  have hxn : xn < 64 := by omega
  have hdn := depN_nn ok xn l
  obtain ⟨dn, hdn'⟩ : ∃ dn, dn = depN m xn l := ⟨_, rfl⟩
  rw [← hdn'] at hdn
  have HDN := Lib.hid hdn'.symm
  have HG2 := Lib.hid g2
  have OK := Lib.hid ok
  have HP : Hid (pFillingWins m (xn : Int) l = (decide (0 < dn), true)) := by show _ = _; simp only [pFillingWins, g1, g2, Int.toNat_natCast]; rw [hdn']; rfl
  rw [HP.out]
  clear hdn' ok x0 x1
  go_enter Try.func45, Try.ntmps45
  go_wp2_with fail
  refine (asked_c _ m _ _ (hm.later (by (repeat (first | exact Below.refl _ _ | apply Below.drew | apply below_drewN | (refine Below.setCell ?_ (by first | omega | (simp; done) | (simp; omega) | (dsimp only; omega)) _) | (refine Below.alloc ?_ (by first | omega | (simp; done) | (simp; omega) | (dsimp only; omega)) _)))))).mono ?_
  rintro e w1 ⟨rfl, hb1⟩
  have HB1 : Hid (Below w.heap.size w w1) := below_then (by (repeat (first | exact Below.refl _ _ | apply Below.drew | apply below_drewN | (refine Below.setCell ?_ (by first | omega | (simp; done) | (simp; omega) | (dsimp only; omega)) _) | (refine Below.alloc ?_ (by first | omega | (simp; done) | (simp; omega) | (dsimp only; omega)) _)))) hb1
  have HX1 : Hid (Below (w.heap.size + 1) (w.alloc (.cells #[.int .i64 m.size, .slice ad m.doors.length cd, .slice ak m.keys.length ck] 29)) w1) := hb1.mono (by simp)
  obtain ⟨q0, q1, q2, z1⟩ := box3 HX1.out (by omega)
  rw [g1]
  go_wp2_with fail
  refine (isFilling_c _ m _ _ _ l _ (hm.later HB1.out) g1 (hA.later HB1.out) hl).mono ?_
  rintro e w2 ⟨rfl, hb2⟩
  have HB2 : Hid (Below w.heap.size w w2) := below_then HB1.out hb2
  have HX2 : Hid (Below (w.heap.size + 1) (w.alloc (.cells #[.int .i64 m.size, .slice ad m.doors.length cd, .slice ak m.keys.length ck] 29)) w2) := HX1.out.trans (hb2.mono (by omega))
  clear q0 q1 q2
  obtain ⟨q0, q1, q2, z2⟩ := box3 HX2.out (by omega)
  rw [HG2.out]
  clear g2
  go_wp2_with fail
  refine (depth_c _ m xn _ _ l _ (hm.later HB2.out) OK.out hxn (hA.later HB2.out) HG2.out).mono ?_
  rintro e w3 ⟨rfl, hb3⟩
  have HB3 : Hid (Below w.heap.size w w3) := below_then HB2.out hb3
  rw [HDN.out]
  go_wp2
  go_ret2
  exact ⟨rfl, HB3.out⟩
set_option maxRecDepth 100000 in
set_option maxHeartbeats 4000000 in
theorem specFillingWins_c (v : Value) (m : Mz) (x : Int) (a : Option Addr) (cap : Nat) (l : List Int) (w : World) (hm : MzAt w v m) (wx : wfI x) (hA : IC w a l) (hl : l.length ≤ 1048576) (wl : ∀ y ∈ l, wfI y) :
    Calls Try.prog 44 #[v, .int .i64 x, .slice a l.length cap] w fun e w' => e = .returned (.tuple #[.bool (pFillingWins m x l).1, .bool (pFillingWins m x l).2]) ∧ Below w.heap.size w w' := by
  have hM := hm
  obtain ⟨⟨ad, cd, ak, ck, rfl, hd, hk'⟩, nd, nk⟩ := hM
  cases g : (askB m x && fillB m x l)
  case false =>
    have HP : Hid (pFillingWins m x l = (false, false)) := by show _ = _; simp [pFillingWins, g]
    rw [HP.out]
    go_enter Try.func44, Try.ntmps44
    go_wp2_with fail
    refine (l9Good_c _ m _ _ _ l _ (hm.later (by (repeat (first | exact Below.refl _ _ | apply Below.drew | apply below_drewN | (refine Below.setCell ?_ (by first | omega | (simp; done) | (simp; omega) | (dsimp only; omega)) _) | (refine Below.alloc ?_ (by first | omega | (simp; done) | (simp; omega) | (dsimp only; omega)) _))))) (hA.later (by (repeat (first | exact Below.refl _ _ | apply Below.drew | apply below_drewN | (refine Below.setCell ?_ (by first | omega | (simp; done) | (simp; omega) | (dsimp only; omega)) _) | (refine Below.alloc ?_ (by first | omega | (simp; done) | (simp; omega) | (dsimp only; omega)) _))))) hl).mono ?_
    rintro e w1 ⟨rfl, hb1⟩
    have HB1 : Hid (Below w.heap.size w w1) := below_then (by (repeat (first | exact Below.refl _ _ | apply Below.drew | apply below_drewN | (refine Below.setCell ?_ (by first | omega | (simp; done) | (simp; omega) | (dsimp only; omega)) _) | (refine Below.alloc ?_ (by first | omega | (simp; done) | (simp; omega) | (dsimp only; omega)) _)))) hb1
    obtain ⟨hc1, hf1, hz1⟩ := bcell3 hb1
    rw [g]
    go_wp2_with fail
    go_ret2
    exact ⟨rfl, HB1.out⟩
  have g' := g
  rw [Bool.and_eq_true] at g'
  obtain ⟨g1, g2⟩ := g'
  obtain ⟨ok, x0, x1⟩ := ask_ok g1
  obtain ⟨xn, rfl⟩ := Int.eq_ofNat_of_zero_le x0
  have hxn : xn < 64 := by omega
  have hdn := depN_nn ok xn l
  obtain ⟨dn, hdn'⟩ : ∃ dn, dn = depN m xn l := ⟨_, rfl⟩
  rw [← hdn'] at hdn
  have HDN := Lib.hid hdn'.symm
  have HG2 := Lib.hid g2
  have OK := Lib.hid ok
  have HP : Hid (pFillingWins m (xn : Int) l = (decide (0 < dn), true)) := by show _ = _; simp only [pFillingWins, g1, g2, Int.toNat_natCast]; rw [hdn']; rfl
  rw [HP.out]
  clear hdn' ok x0 x1
  go_enter Try.func44, Try.ntmps44
  go_wp2_with fail
  refine (l9Good_c _ m _ _ _ l _ (hm.later (by (repeat (first | exact Below.refl _ _ | apply Below.drew | apply below_drewN | (refine Below.setCell ?_ (by first | omega | (simp; done) | (simp; omega) | (dsimp only; omega)) _) | (refine Below.alloc ?_ (by first | omega | (simp; done) | (simp; omega) | (dsimp only; omega)) _))))) (hA.later (by (repeat (first | exact Below.refl _ _ | apply Below.drew | apply below_drewN | (refine Below.setCell ?_ (by first | omega | (simp; done) | (simp; omega) | (dsimp only; omega)) _) | (refine Below.alloc ?_ (by first | omega | (simp; done) | (simp; omega) | (dsimp only; omega)) _))))) hl).mono ?_
  rintro e w1 ⟨rfl, hb1⟩
  have HB1 : Hid (Below w.heap.size w w1) := below_then (by (repeat (first | exact Below.refl _ _ | apply Below.drew | apply below_drewN | (refine Below.setCell ?_ (by first | omega | (simp; done) | (simp; omega) | (dsimp only; omega)) _) | (refine Below.alloc ?_ (by first | omega | (simp; done) | (simp; omega) | (dsimp only; omega)) _)))) hb1
  have HX1 : Hid (Below (w.heap.size + 1) (w.alloc (.cells #[.int .i64 m.size, .slice ad m.doors.length cd, .slice ak m.keys.length ck] 29)) w1) := hb1.mono (by simp)
  obtain ⟨q0, q1, q2, z1⟩ := box3 HX1.out (by omega)
  rw [g]
  go_wp2_with fail
  refine (l9Depth_c _ m xn _ _ l _ (hm.later HB1.out) OK.out hxn (hA.later HB1.out) HG2.out).mono ?_
  rintro e w2 ⟨rfl, hb2⟩
  have HB2 : Hid (Below w.heap.size w w2) := below_then HB1.out hb2
  have HX2 : Hid (Below (w.heap.size + 1) (w.alloc (.cells #[.int .i64 m.size, .slice ad m.doors.length cd, .slice ak m.keys.length ck] 29)) w2) := HX1.out.trans (hb2.mono (by omega))
  clear q0 q1 q2
  obtain ⟨q0, q1, q2, z2⟩ := box3 HX2.out (by omega)
  rw [HDN.out]
  go_wp2
  go_ret2
  exact ⟨rfl, HB2.out⟩
set_option maxRecDepth 100000 in
set_option maxHeartbeats 4000000 in
theorem implFillingDepth_c (v : Value) (m : Mz) (x : Int) (a : Option Addr) (cap : Nat) (l : List Int) (w : World) (hm : MzAt w v m) (wx : wfI x) (hA : IC w a l) (hl : l.length ≤ 1048576) (wl : ∀ y ∈ l, wfI y) :
    Calls Try.prog 47 #[v, .int .i64 x, .slice a l.length cap] w fun e w' => e = .returned (.tuple #[.int .i64 (pFillingDepth m x l).1, .bool (pFillingDepth m x l).2]) ∧ Below w.heap.size w w' := by
  have hM := hm
  obtain ⟨⟨ad, cd, ak, ck, rfl, hd, hk'⟩, nd, nk⟩ := hM
  cases g1 : askB m x
  case false =>
    have HP : Hid (pFillingDepth m x l = (0, false)) := by show _ = _; simp [pFillingDepth, g1]
    rw [HP.out]
    go_enter Try.func47, Try.ntmps47
    go_wp2_with fail
    refine (asked_c _ m _ _ (hm.later (by (repeat (first | exact Below.refl _ _ | apply Below.drew | apply below_drewN | (refine Below.setCell ?_ (by first | omega | (simp; done) | (simp; omega) | (dsimp only; omega)) _) | (refine Below.alloc ?_ (by first | omega | (simp; done) | (simp; omega) | (dsimp only; omega)) _)))))).mono ?_
    rintro e w1 ⟨rfl, hb1⟩
    have HB1 : Hid (Below w.heap.size w w1) := below_then (by (repeat (first | exact Below.refl _ _ | apply Below.drew | apply below_drewN | (refine Below.setCell ?_ (by first | omega | (simp; done) | (simp; omega) | (dsimp only; omega)) _) | (refine Below.alloc ?_ (by first | omega | (simp; done) | (simp; omega) | (dsimp only; omega)) _)))) hb1
    obtain ⟨hc1, hf1, hz1⟩ := bcell3 hb1
    rw [g1]
    go_wp2_with fail
    go_ret2
    exact ⟨rfl, HB1.out⟩
  cases g2 : fillB m x l
  case false =>
    have HP : Hid (pFillingDepth m x l = (0, false)) := by show _ = _; simp [pFillingDepth, g1, g2]
    rw [HP.out]
    go_enter Try.func47, Try.ntmps47
    go_wp2_with fail
    refine (asked_c _ m _ _ (hm.later (by (repeat (first | exact Below.refl _ _ | apply Below.drew | apply below_drewN | (refine Below.setCell ?_ (by first | omega | (simp; done) | (simp; omega) | (dsimp only; omega)) _) | (refine Below.alloc ?_ (by first | omega | (simp; done) | (simp; omega) | (dsimp only; omega)) _)))))).mono ?_
    rintro e w1 ⟨rfl, hb1⟩
    have HB1 : Hid (Below w.heap.size w w1) := below_then (by (repeat (first | exact Below.refl _ _ | apply Below.drew | apply below_drewN | (refine Below.setCell ?_ (by first | omega | (simp; done) | (simp; omega) | (dsimp only; omega)) _) | (refine Below.alloc ?_ (by first | omega | (simp; done) | (simp; omega) | (dsimp only; omega)) _)))) hb1
    obtain ⟨hc1, hf1, hz1⟩ := bcell3 hb1
    rw [g1]
    go_wp2_with fail
    refine (isFilling_c _ m _ _ _ l _ (hm.later HB1.out) g1 (hA.later HB1.out) hl).mono ?_
    rintro e w2 ⟨rfl, hb2⟩
    have HB2 : Hid (Below w.heap.size w w2) := below_then HB1.out hb2
    rw [g2]
    go_wp2_with fail
    go_ret2
    exact ⟨rfl, HB2.out⟩
  obtain ⟨ok, x0, x1⟩ := ask_ok g1
  obtain ⟨xn, rfl⟩ := Int.eq_ofNat_of_zero_le x0
  have hxn : xn < 64 := by omega
  have hdn := depN_nn ok xn l
  obtain ⟨dn, hdn'⟩ : ∃ dn, dn = depN m xn l := ⟨_, rfl⟩
  rw [← hdn'] at hdn
  have HDN := Lib.hid hdn'.symm
  have HG2 := Lib.hid g2
  have OK := Lib.hid ok
  have HP : Hid (pFillingDepth m (xn : Int) l = (dn, decide (0 < dn))) := by show _ = _; simp only [pFillingDepth, g1, g2, Int.toNat_natCast]; rw [hdn']; rfl
  rw [HP.out]
  clear hdn' ok x0 x1
  go_enter Try.func47, Try.ntmps47
  go_wp2_with fail
  refine (asked_c _ m _ _ (hm.later (by (repeat (first | exact Below.refl _ _ | apply Below.drew | apply below_drewN | (refine Below.setCell ?_ (by first | omega | (simp; done) | (simp; omega) | (dsimp only; omega)) _) | (refine Below.alloc ?_ (by first | omega | (simp; done) | (simp; omega) | (dsimp only; omega)) _)))))).mono ?_
  rintro e w1 ⟨rfl, hb1⟩
  have HB1 : Hid (Below w.heap.size w w1) := below_then (by (repeat (first | exact Below.refl _ _ | apply Below.drew | apply below_drewN | (refine Below.setCell ?_ (by first | omega | (simp; done) | (simp; omega) | (dsimp only; omega)) _) | (refine Below.alloc ?_ (by first | omega | (simp; done) | (simp; omega) | (dsimp only; omega)) _)))) hb1
  have HX1 : Hid (Below (w.heap.size + 1) (w.alloc (.cells #[.int .i64 m.size, .slice ad m.doors.length cd, .slice ak m.keys.length ck] 29)) w1) := hb1.mono (by simp)
  obtain ⟨q0, q1, q2, z1⟩ := box3 HX1.out (by omega)
  rw [g1]
  go_wp2_with fail
  refine (isFilling_c _ m _ _ _ l _ (hm.later HB1.out) g1 (hA.later HB1.out) hl).mono ?_
  rintro e w2 ⟨rfl, hb2⟩
  have HB2 : Hid (Below w.heap.size w w2) := below_then HB1.out hb2
  have HX2 : Hid (Below (w.heap.size + 1) (w.alloc (.cells #[.int .i64 m.size, .slice ad m.doors.length cd, .slice ak m.keys.length ck] 29)) w2) := HX1.out.trans (hb2.mono (by omega))
  clear q0 q1 q2
  obtain ⟨q0, q1, q2, z2⟩ := box3 HX2.out (by omega)
  rw [HG2.out]
  clear g2
  go_wp2_with fail
  refine (depth_c _ m xn _ _ l _ (hm.later HB2.out) OK.out hxn (hA.later HB2.out) HG2.out).mono ?_
  rintro e w3 ⟨rfl, hb3⟩
  have HB3 : Hid (Below w.heap.size w w3) := below_then HB2.out hb3
  rw [HDN.out]
  go_wp2
  go_ret2
  exact ⟨rfl, HB3.out⟩
set_option maxRecDepth 100000 in
set_option maxHeartbeats 4000000 in
theorem specFillingDepth_c (v : Value) (m : Mz) (x : Int) (a : Option Addr) (cap : Nat) (l : List Int) (w : World) (hm : MzAt w v m) (wx : wfI x) (hA : IC w a l) (hl : l.length ≤ 1048576) (wl : ∀ y ∈ l, wfI y) :
    Calls Try.prog 46 #[v, .int .i64 x, .slice a l.length cap] w fun e w' => e = .returned (.tuple #[.int .i64 (pFillingDepth m x l).1, .bool (pFillingDepth m x l).2]) ∧ Below w.heap.size w w' := by
  have hM := hm
  obtain ⟨⟨ad, cd, ak, ck, rfl, hd, hk'⟩, nd, nk⟩ := hM
  cases g : (askB m x && fillB m x l)
  case false =>
    have HP : Hid (pFillingDepth m x l = (0, false)) := by show _ = _; simp [pFillingDepth, g]
    rw [HP.out]
    go_enter Try.func46, Try.ntmps46
    go_wp2_with fail
    refine (l9Good_c _ m _ _ _ l _ (hm.later (by (repeat (first | exact Below.refl _ _ | apply Below.drew | apply below_drewN | (refine Below.setCell ?_ (by first | omega | (simp; done) | (simp; omega) | (dsimp only; omega)) _) | (refine Below.alloc ?_ (by first | omega | (simp; done) | (simp; omega) | (dsimp only; omega)) _))))) (hA.later (by (repeat (first | exact Below.refl _ _ | apply Below.drew | apply below_drewN | (refine Below.setCell ?_ (by first | omega | (simp; done) | (simp; omega) | (dsimp only; omega)) _) | (refine Below.alloc ?_ (by first | omega | (simp; done) | (simp; omega) | (dsimp only; omega)) _))))) hl).mono ?_
    rintro e w1 ⟨rfl, hb1⟩
    have HB1 : Hid (Below w.heap.size w w1) := below_then (by (repeat (first | exact Below.refl _ _ | apply Below.drew | apply below_drewN | (refine Below.setCell ?_ (by first | omega | (simp; done) | (simp; omega) | (dsimp only; omega)) _) | (refine Below.alloc ?_ (by first | omega | (simp; done) | (simp; omega) | (dsimp only; omega)) _)))) hb1
    obtain ⟨hc1, hf1, hz1⟩ := bcell3 hb1
    rw [g]
    go_wp2_with fail
    go_ret2
    exact ⟨rfl, HB1.out⟩
  have g' := g
  rw [Bool.and_eq_true] at g'
  obtain ⟨g1, g2⟩ := g'
  obtain ⟨ok, x0, x1⟩ := ask_ok g1
  obtain ⟨xn, rfl⟩ := Int.eq_ofNat_of_zero_le x0
  have hxn : xn < 64 := by omega
  have hdn := depN_nn ok xn l
  obtain ⟨dn, hdn'⟩ : ∃ dn, dn = depN m xn l := ⟨_, rfl⟩
  rw [← hdn'] at hdn
  have HDN := Lib.hid hdn'.symm
  have HG2 := Lib.hid g2
  have OK := Lib.hid ok
  have HP : Hid (pFillingDepth m (xn : Int) l = (dn, decide (0 < dn))) := by show _ = _; simp only [pFillingDepth, g1, g2, Int.toNat_natCast]; rw [hdn']; rfl
  rw [HP.out]
  clear hdn' ok x0 x1
  by_cases hz : dn = 0
  case pos =>
    subst hz
    go_enter Try.func46, Try.ntmps46
    go_wp2_with fail
    refine (l9Good_c _ m _ _ _ l _ (hm.later (by (repeat (first | exact Below.refl _ _ | apply Below.drew | apply below_drewN | (refine Below.setCell ?_ (by first | omega | (simp; done) | (simp; omega) | (dsimp only; omega)) _) | (refine Below.alloc ?_ (by first | omega | (simp; done) | (simp; omega) | (dsimp only; omega)) _))))) (hA.later (by (repeat (first | exact Below.refl _ _ | apply Below.drew | apply below_drewN | (refine Below.setCell ?_ (by first | omega | (simp; done) | (simp; omega) | (dsimp only; omega)) _) | (refine Below.alloc ?_ (by first | omega | (simp; done) | (simp; omega) | (dsimp only; omega)) _))))) hl).mono ?_
    rintro e w1 ⟨rfl, hb1⟩
    have HB1 : Hid (Below w.heap.size w w1) := below_then (by (repeat (first | exact Below.refl _ _ | apply Below.drew | apply below_drewN | (refine Below.setCell ?_ (by first | omega | (simp; done) | (simp; omega) | (dsimp only; omega)) _) | (refine Below.alloc ?_ (by first | omega | (simp; done) | (simp; omega) | (dsimp only; omega)) _)))) hb1
    have HX1 : Hid (Below (w.heap.size + 1) (w.alloc (.cells #[.int .i64 m.size, .slice ad m.doors.length cd, .slice ak m.keys.length ck] 29)) w1) := hb1.mono (by simp)
    obtain ⟨q0, q1, q2, z1⟩ := box3 HX1.out (by omega)
    rw [g]
    go_wp2_with fail
    refine (l9Depth_c _ m xn _ _ l _ (hm.later HB1.out) OK.out hxn (hA.later HB1.out) HG2.out).mono ?_
    rintro e w2 ⟨rfl, hb2⟩
    have HB2 : Hid (Below w.heap.size w w2) := below_then HB1.out hb2
    have HX2 : Hid (Below (w.heap.size + 1) (w.alloc (.cells #[.int .i64 m.size, .slice ad m.doors.length cd, .slice ak m.keys.length ck] 29)) w2) := HX1.out.trans (hb2.mono (by omega))
    clear q0 q1 q2
    obtain ⟨q0, q1, q2, z2⟩ := box3 HX2.out (by omega)
    rw [HDN.out]
    go_wp2
    go_ret2
    exact ⟨rfl, HB2.out⟩
  case neg =>
    have hdp : 0 < dn := by omega
    have HT : Hid (decide (0 < dn) = true) := decide_eq_true hdp
    rw [HT.out]
    clear hdp
    go_enter Try.func46, Try.ntmps46
    go_wp2_with fail
    refine (l9Good_c _ m _ _ _ l _ (hm.later (by (repeat (first | exact Below.refl _ _ | apply Below.drew | apply below_drewN | (refine Below.setCell ?_ (by first | omega | (simp; done) | (simp; omega) | (dsimp only; omega)) _) | (refine Below.alloc ?_ (by first | omega | (simp; done) | (simp; omega) | (dsimp only; omega)) _))))) (hA.later (by (repeat (first | exact Below.refl _ _ | apply Below.drew | apply below_drewN | (refine Below.setCell ?_ (by first | omega | (simp; done) | (simp; omega) | (dsimp only; omega)) _) | (refine Below.alloc ?_ (by first | omega | (simp; done) | (simp; omega) | (dsimp only; omega)) _))))) hl).mono ?_
    rintro e w1 ⟨rfl, hb1⟩
    have HB1 : Hid (Below w.heap.size w w1) := below_then (by (repeat (first | exact Below.refl _ _ | apply Below.drew | apply below_drewN | (refine Below.setCell ?_ (by first | omega | (simp; done) | (simp; omega) | (dsimp only; omega)) _) | (refine Below.alloc ?_ (by first | omega | (simp; done) | (simp; omega) | (dsimp only; omega)) _)))) hb1
    have HX1 : Hid (Below (w.heap.size + 1) (w.alloc (.cells #[.int .i64 m.size, .slice ad m.doors.length cd, .slice ak m.keys.length ck] 29)) w1) := hb1.mono (by simp)
    obtain ⟨q0, q1, q2, z1⟩ := box3 HX1.out (by omega)
    rw [g]
    go_wp2_with fail
    refine (l9Depth_c _ m xn _ _ l _ (hm.later HB1.out) OK.out hxn (hA.later HB1.out) HG2.out).mono ?_
    rintro e w2 ⟨rfl, hb2⟩
    have HB2 : Hid (Below w.heap.size w w2) := below_then HB1.out hb2
    have HX2 : Hid (Below (w.heap.size + 1) (w.alloc (.cells #[.int .i64 m.size, .slice ad m.doors.length cd, .slice ak m.keys.length ck] 29)) w2) := HX1.out.trans (hb2.mono (by omega))
    clear q0 q1 q2
    obtain ⟨q0, q1, q2, z2⟩ := box3 HX2.out (by omega)
    rw [HDN.out]
    go_wp2_with fail
    refine (l9Depth_c _ m xn _ _ l _ (hm.later HB2.out) OK.out hxn (hA.later HB2.out) HG2.out).mono ?_
    rintro e w3 ⟨rfl, hb3⟩
    have HB3 : Hid (Below w.heap.size w w3) := below_then HB2.out hb3
    rw [HDN.out]
    go_wp2
    go_ret2
    exact ⟨rfl, HB3.out⟩
end Go.Proofs.Ytbjcabphiddjgaa
