/- ActsAt. -/
import Derived.Test.YtkhackdbnmcffaaKdActs3
import Derived.Test.YtkhackdbnmcffaaKdActs4
set_option linter.unusedVariables false
set_option linter.unusedSimpArgs false
namespace Go.KD
noncomputable def pActsAt (m : Wk) (x l : Int) : List Int × Bool := if visitB m x l then (actsL m x l, true) else ([], false)
theorem actsL_len (m : Wk) (x l : Int) : (actsL m x l).length ≤ 41 := by
  have := memK_len (nbK m.gates x l m.gates.length) 40
  unfold actsL
  rw [List.length_append, mem_eq]
  split <;> simp <;> omega
theorem pActsAt_len (m : Wk) (x l : Int) : (pActsAt m x l).1.length ≤ 1000000 := by
  have := actsL_len m x l
  unfold pActsAt; split
  · show (actsL m x l).length ≤ _; omega
  · simp
theorem visit_parts {m : Wk} {x l : Int} (h : visitB m x l = true) : WkOk m ∧ ∃ xn ln : Nat, x = xn ∧ l = ln ∧ (xn : Int) < m.size ∧ ln < 64 := by
  simp only [visitB, Bool.and_eq_true] at h
  obtain ⟨⟨h1, h2⟩, h3⟩ := h
  obtain ⟨x0, x1⟩ := inB_true.1 h2
  obtain ⟨l0, l1⟩ := setB_true.1 h3
  obtain ⟨xn, rfl⟩ := Int.eq_ofNat_of_zero_le x0
  obtain ⟨ln, rfl⟩ := Int.eq_ofNat_of_zero_le l0
  exact ⟨worksB_true.1 h1, xn, ln, rfl, rfl, by omega, by omega⟩
end Go.KD
namespace Go.Proofs.Ytkhackdbnmcffaa
open Go.RowKit Go.KD
attribute [local go_sem] later_cell later_frozen
theorem specActsAt_c (v : Value) (m : Wk) (x l : Int) (w : World) (R : List Int) (b : Bool) (hp : pActsAt m x l = (R, b)) (hm : WkAt w v m) (wx : wfI x) (wl : wfI l) :
    Calls Try.prog 48 #[v, .int .i64 x, .int .i64 l] w fun e w' => ∃ aw cw, e = .returned (.tuple #[.slice aw R.length cw, .bool b]) ∧ IC w' aw R ∧ Below w.heap.size w w' := by
  have hM := hm
  obtain ⟨⟨ad, cd, ak, ck, rfl, hd, hk'⟩, nd, nk⟩ := hM
  cases g : visitB m x l
  · simp only [pActsAt, g] at hp
    cases hp
    go_enter Try.func48, Try.ntmps48
    go_wp2_with fail
    refine (l8Visit_c _ m _ _ _ (hm.later (by (repeat (first | exact Below.refl _ _ | apply Below.drew | apply below_drewN | (refine Below.setCell ?_ (by first | omega | (simp; done) | (simp; omega) | (dsimp only; omega)) _) | (refine Below.alloc ?_ (by first | omega | (simp; done) | (simp; omega) | (dsimp only; omega)) _)))))).mono ?_
    rintro e w1 ⟨rfl, hb1⟩
    have HB1 : Hid (Below w.heap.size w w1) := below_then (by (repeat (first | exact Below.refl _ _ | apply Below.drew | apply below_drewN | (refine Below.setCell ?_ (by first | omega | (simp; done) | (simp; omega) | (dsimp only; omega)) _) | (refine Below.alloc ?_ (by first | omega | (simp; done) | (simp; omega) | (dsimp only; omega)) _)))) hb1
    rw [g]
    go_wp2_with fail
    go_ret2
    exact ⟨_, _, rfl, fun k hk => absurd hk (Nat.not_lt_zero k), HB1.out.alloc HB1.out.size _⟩
  · obtain ⟨ok, xn, ln, rfl, rfl, hx, hl⟩ := visit_parts g
    simp only [pActsAt, g, if_true] at hp
    cases hp
    have OK := Lib.hid ok; clear ok
    go_enter Try.func48, Try.ntmps48
    go_wp2_with fail
    refine (l8Visit_c _ m _ _ _ (hm.later (by (repeat (first | exact Below.refl _ _ | apply Below.drew | apply below_drewN | (refine Below.setCell ?_ (by first | omega | (simp; done) | (simp; omega) | (dsimp only; omega)) _) | (refine Below.alloc ?_ (by first | omega | (simp; done) | (simp; omega) | (dsimp only; omega)) _)))))).mono ?_
    rintro e w1 ⟨rfl, hb1⟩
    have HB1 : Hid (Below w.heap.size w w1) := below_then (by (repeat (first | exact Below.refl _ _ | apply Below.drew | apply below_drewN | (refine Below.setCell ?_ (by first | omega | (simp; done) | (simp; omega) | (dsimp only; omega)) _) | (refine Below.alloc ?_ (by first | omega | (simp; done) | (simp; omega) | (dsimp only; omega)) _)))) hb1
    obtain ⟨hc1, hf1, hz1⟩ := bcell3 hb1
    rw [g]
    go_wp2_with fail
    refine (l8Acts_c _ m xn ln _ (hm.later HB1.out) OK.out hx hl).mono ?_
    rintro e w2 ⟨u, rfl, ⟨bu, ou, cu, rfl, hi, _, _⟩, hb2⟩
    have HI := Lib.hid hi; clear hi
    go_wp2_with fail
    go_ret2
    exact ⟨_, _, rfl, HI.out, below_then HB1.out hb2⟩
theorem implActsAt_c (v : Value) (m : Wk) (x l : Int) (w : World) (R : List Int) (b : Bool) (hp : pActsAt m x l = (R, b)) (hm : WkAt w v m) (wx : wfI x) (wl : wfI l) :
    Calls Try.prog 47 #[v, .int .i64 x, .int .i64 l] w fun e w' => ∃ u, e = .returned (.tuple #[u, .bool b]) ∧ w'.ownsRow w.heap.size 3 1 u R.length (ints R) ∧ Below w.heap.size w w' := by
  have hM := hm
  obtain ⟨⟨ad, cd, ak, ck, rfl, hd, hk'⟩, nd, nk⟩ := hM
  cases g : visitB m x l
  · simp only [pActsAt, g] at hp
    cases hp
    go_enter Try.func47, Try.ntmps47
    go_wp2_with fail
    refine (isVisitOf_c _ m _ _ _ (hm.later (by (repeat (first | exact Below.refl _ _ | apply Below.drew | apply below_drewN | (refine Below.setCell ?_ (by first | omega | (simp; done) | (simp; omega) | (dsimp only; omega)) _) | (refine Below.alloc ?_ (by first | omega | (simp; done) | (simp; omega) | (dsimp only; omega)) _)))))).mono ?_
    rintro e w1 ⟨rfl, hb1⟩
    have HB1 : Hid (Below w.heap.size w w1) := below_then (by (repeat (first | exact Below.refl _ _ | apply Below.drew | apply below_drewN | (refine Below.setCell ?_ (by first | omega | (simp; done) | (simp; omega) | (dsimp only; omega)) _) | (refine Below.alloc ?_ (by first | omega | (simp; done) | (simp; omega) | (dsimp only; omega)) _)))) hb1
    rw [g]
    go_wp2_with fail
    go_ret2
    exact ⟨_, rfl, ⟨rfl, .inl ⟨rfl, rfl⟩⟩, HB1.out⟩
  · obtain ⟨ok, xn, ln, rfl, rfl, hx, hl⟩ := visit_parts g
    simp only [pActsAt, g, if_true] at hp
    cases hp
    have OK := Lib.hid ok; clear ok
    go_enter Try.func47, Try.ntmps47
    go_wp2_with fail
    refine (isVisitOf_c _ m _ _ _ (hm.later (by (repeat (first | exact Below.refl _ _ | apply Below.drew | apply below_drewN | (refine Below.setCell ?_ (by first | omega | (simp; done) | (simp; omega) | (dsimp only; omega)) _) | (refine Below.alloc ?_ (by first | omega | (simp; done) | (simp; omega) | (dsimp only; omega)) _)))))).mono ?_
    rintro e w1 ⟨rfl, hb1⟩
    have HB1 : Hid (Below w.heap.size w w1) := below_then (by (repeat (first | exact Below.refl _ _ | apply Below.drew | apply below_drewN | (refine Below.setCell ?_ (by first | omega | (simp; done) | (simp; omega) | (dsimp only; omega)) _) | (refine Below.alloc ?_ (by first | omega | (simp; done) | (simp; omega) | (dsimp only; omega)) _)))) hb1
    obtain ⟨hc1, hf1, hz1⟩ := bcell3 hb1
    rw [g]
    go_wp2_with fail
    refine (acts_c _ m xn ln _ (hm.later HB1.out) OK.out hx hl).mono ?_
    rintro e w2 ⟨u, rfl, ho, hb2⟩
    have HI := Lib.hid ho; clear ho
    go_wp2_with fail
    go_ret2
    exact ⟨_, rfl, (Own.mono (Own.of HI.out) HB1.out.size (Nat.le_refl _)).row, below_then HB1.out hb2⟩
end Go.Proofs.Ytkhackdbnmcffaa
