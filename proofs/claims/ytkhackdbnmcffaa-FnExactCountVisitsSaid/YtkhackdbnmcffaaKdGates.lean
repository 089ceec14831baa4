/- Contracts of GateOpen. -/
import Derived.Test.YtkhackdbnmcffaaKdValidA
import Derived.Test.YtkhackdbnmcffaaKdValidC
import Derived.Test.YtkhackdbnmcffaaKdMem
import Derived.Test.YtkhackdbnmcffaaKdOpen
set_option linter.unusedVariables false
set_option linter.unusedSimpArgs false
namespace Go.KD
/-- Is a gate open? -/
def openB (g : D4) (l : Int) : Bool := decide (popc (g.2.2.1.toNat &&& l.toNat) % 2 = g.2.2.2)
noncomputable def pGateOpen (m : Wk) (k l : Int) : Bool × Bool :=
  if worksB m && inB k 0 (m.gates.length - 1) && setB l then (openB m.gates[k.toNat]! l, true) else (false, false)
theorem gate_facts {m : Wk} (h : WkOk m) {k : Nat} (hk : k < m.gates.length) {x y z u : Int} (hg : m.gates[k]! = (x, y, z, u)) : 0 ≤ x ∧ x < y ∧ y < m.size ∧ 0 ≤ z ∧ z < 64 ∧ 0 ≤ u ∧ u ≤ 1 := by
  have := h.gt k hk
  rw [gateB_eq hg] at this
  simp only [Bool.and_eq_true, inB_true, setB_true] at this
  omega
end Go.KD
namespace Go.Proofs.Ytkhackdbnmcffaa
open Go.RowKit Go.KD
attribute [local go_sem] later_cell later_frozen
theorem ret_tup {a b : Array Value} (h : a = b) : Ending.returned (.tuple a) = .returned (.tuple b) := by rw [h]
theorem and_lt64 {a : Nat} (b : Nat) (h : a < 64) : a &&& b < 64 := Nat.lt_of_le_of_lt Nat.and_le_left h
set_option maxHeartbeats 1000000 in
theorem l8Open_c (x y u : Int) (z l : Nat) (hz : z < 64) (hl : l < 64) (w : World) : Calls Try.prog 112 #[.agg #[.int .i64 x, .int .i64 y, .int .i64 z, .int .i64 u], .int .i64 l] w fun e w' =>
    e = .returned (.bool (openB (x, y, z, u) l)) ∧ Below w.heap.size w w' := by
  have hp : 0 ≤ popc (z &&& l) % 2 := by unfold popc; omega
  have HA : Hid (bits .and .i64 (z : Int) (l : Int) = ((z &&& l : Nat) : Int)) := i64_and z l (by omega) (by omega)
  go_enter Try.func112, Try.ntmps112
  go_wp2
  refine wp_region_later (w.heap.size + 1) (by kernel_rfl) (by kernel_rfl) ?_
  repeat (first | go_big_quiet_skip | (go_big_quiet_want; go_big_quiet_op; (first | go_big_quiet_on | (apply Exists.intro; refine ⟨fun W => ?_, ?_⟩; (first | (go_at_call 90; exact Calls.later_same (l8Odd_c z l (z &&& l) (and_lt64 l hz) HA.out _))); go_big_quiet_on))))
  refine wpQuiet_nil ?_; rintro _ ⟨⟨w9, hb9⟩, rfl⟩; obtain ⟨hc9, hf9, hz9⟩ := bcell3 hb9
  go_wp2
  go_ret
  exact ⟨ret_bool (by rw [Bool.eq_iff_iff]; simp [openB]), ((Below.refl _ _).alloc (Nat.le_refl _) _).trans (hb9.mono (by omega))⟩
set_option maxHeartbeats 1000000 in
theorem isOpen_c (v : Value) (m : Wk) (w : World) (hm : WkAt w v m) (ok : WkOk m) (k l : Nat) (hk : k < m.gates.length) (hl : l < 64) (g : D4) (hg : Hid (m.gates[k]! = g)) : Calls Try.prog 110 #[v, .int .i64 k, .int .i64 l] w fun e w' =>
    e = .returned (.bool (openB g l)) ∧ Below w.heap.size w w' := by
  obtain ⟨⟨ad, cd, ak, ck, rfl, hd, hk'⟩, nd, nk⟩ := hm
  have hng := ok.ng
  obtain ⟨s, gs, ps⟩ := m
  dsimp only at *
  obtain ⟨b, off, x, y, z, u, rfl, HX, hbs, e0, e1, e2, e3⟩ := hd.at k hk
  obtain rfl : g = (x, y, z, u) := hg.out.symm.trans HX.out
  obtain ⟨f1, f2, f3, f4, f5, f6, f7⟩ := gate_facts ok hk HX.out
  obtain ⟨zn, rfl⟩ := Int.eq_ofNat_of_zero_le f4
  have hp : 0 ≤ popc (zn &&& l) % 2 := by unfold popc; omega
  have hzn : zn < 64 := by omega
  have ea : bits .and .i64 (zn : Int) (l : Int) = ((zn &&& l : Nat) : Int) := i64_and zn l (by omega) (by omega)
  have HR : Hid (openB (x, y, (zn : Int), u) l = decide (popc (zn &&& l) % 2 = u)) := by show _ = _; simp [openB]
  have hbs1 : b < w.heap.size + 1 := by omega
  obtain ⟨y0, hy0⟩ : ∃ y0, y0 = zn &&& l := ⟨_, rfl⟩
  rw [← hy0] at ea
  have HY := Lib.hid hy0; clear hy0
  have hy64 : y0 < 64 := by have := and_lt64 l hzn; have := HY.out; omega
  go_enter Try.func110, Try.ntmps110
  go_wp2
  refine wp_region_later (w.heap.size + 1) (by kernel_rfl) (by kernel_rfl) ?_
  repeat (first | go_big_quiet_skip | (go_big_quiet_want; go_big_quiet_op; (first | go_big_quiet_on | (apply Exists.intro; refine ⟨fun W => ?_, ?_⟩; (first | (go_at_call 94; exact Calls.later_same (odd_c y0 hy64 _))); go_big_quiet_on))))
  refine wpQuiet_nil ?_; rintro _ ⟨⟨w9, hb9⟩, rfl⟩; obtain ⟨hc9, hf9, hz9⟩ := bcell3 hb9
  go_wp2
  go_ret
  exact ⟨ret_bool (by rw [HR.out, ← HY.out]; first | rfl | (rw [Bool.eq_iff_iff]; simp)), ((Below.refl _ _).alloc (Nat.le_refl _) _).trans (hb9.mono (by omega))⟩
set_option maxHeartbeats 2000000 in
theorem specGateOpen_c (v : Value) (m : Wk) (k l : Int) (w : World) (hm : WkAt w v m) (wk : wfI k) (wl : wfI l) : Calls Try.prog 57 #[v, .int .i64 k, .int .i64 l] w fun e w' =>
    e = .returned (.tuple #[.bool (pGateOpen m k l).1, .bool (pGateOpen m k l).2]) ∧ Below w.heap.size w w' := by
  have hM := hm
  obtain ⟨⟨ad, cd, ak, ck, rfl, hd, hk'⟩, nd, nk⟩ := hM
  obtain ⟨s, gs, ps⟩ := m
  dsimp only at *
  cases b1 : worksB ⟨s, gs, ps⟩
  · have HP : Hid (#[Value.bool false, Value.bool false] = #[.bool (pGateOpen ⟨s, gs, ps⟩ k l).1, .bool (pGateOpen ⟨s, gs, ps⟩ k l).2]) := by show _ = _; simp [pGateOpen, b1]
    go_enter Try.func57, Try.ntmps57
    go_wp2_with (first | (go_at_call 72; refine (l8Works_c _ ⟨s, gs, ps⟩ _ (hm.later (by (repeat (first | exact Below.refl _ _ | apply Below.drew | apply below_drewN | (refine Below.setCell ?_ (by first | omega | (simp; done) | (simp; omega) | (dsimp only; omega)) _) | (refine Below.alloc ?_ (by first | omega | (simp; done) | (simp; omega) | (dsimp only; omega)) _)))))).mono ?_; rintro e w1 ⟨rfl, hb1⟩; obtain ⟨hc1, hf1, hz1⟩ := bcell3 hb1; have HB1 : Hid (Below w.heap.size w w1) := below_then (by (repeat (first | exact Below.refl _ _ | apply Below.drew | apply below_drewN | (refine Below.setCell ?_ (by first | omega | (simp; done) | (simp; omega) | (dsimp only; omega)) _) | (refine Below.alloc ?_ (by first | omega | (simp; done) | (simp; omega) | (dsimp only; omega)) _)))) hb1) | (go_at_call 111; refine (l1In_c _ _ _ _).mono ?_; rintro e w2 ⟨rfl, rfl⟩) | (go_at_call 87; refine (l2Set_c _ _).mono ?_; rintro e w3 ⟨rfl, rfl⟩))
    go_ret2
    exact ⟨ret_tup HP.out, HB1.out⟩
  cases b2 : inB k 0 (gs.length - 1)
  · have HP : Hid (#[Value.bool false, Value.bool false] = #[.bool (pGateOpen ⟨s, gs, ps⟩ k l).1, .bool (pGateOpen ⟨s, gs, ps⟩ k l).2]) := by show _ = _; simp [pGateOpen, b2]
    go_enter Try.func57, Try.ntmps57
    go_wp2_with (first | (go_at_call 72; refine (l8Works_c _ ⟨s, gs, ps⟩ _ (hm.later (by (repeat (first | exact Below.refl _ _ | apply Below.drew | apply below_drewN | (refine Below.setCell ?_ (by first | omega | (simp; done) | (simp; omega) | (dsimp only; omega)) _) | (refine Below.alloc ?_ (by first | omega | (simp; done) | (simp; omega) | (dsimp only; omega)) _)))))).mono ?_; rintro e w1 ⟨rfl, hb1⟩; obtain ⟨hc1, hf1, hz1⟩ := bcell3 hb1; have HB1 : Hid (Below w.heap.size w w1) := below_then (by (repeat (first | exact Below.refl _ _ | apply Below.drew | apply below_drewN | (refine Below.setCell ?_ (by first | omega | (simp; done) | (simp; omega) | (dsimp only; omega)) _) | (refine Below.alloc ?_ (by first | omega | (simp; done) | (simp; omega) | (dsimp only; omega)) _)))) hb1) | (go_at_call 111; refine (l1In_c _ _ _ _).mono ?_; rintro e w2 ⟨rfl, rfl⟩) | (go_at_call 87; refine (l2Set_c _ _).mono ?_; rintro e w3 ⟨rfl, rfl⟩))
    go_ret2
    exact ⟨ret_tup HP.out, HB1.out⟩
  cases b3 : setB l
  · have HP : Hid (#[Value.bool false, Value.bool false] = #[.bool (pGateOpen ⟨s, gs, ps⟩ k l).1, .bool (pGateOpen ⟨s, gs, ps⟩ k l).2]) := by show _ = _; simp [pGateOpen, b3]
    go_enter Try.func57, Try.ntmps57
    go_wp2_with (first | (go_at_call 72; refine (l8Works_c _ ⟨s, gs, ps⟩ _ (hm.later (by (repeat (first | exact Below.refl _ _ | apply Below.drew | apply below_drewN | (refine Below.setCell ?_ (by first | omega | (simp; done) | (simp; omega) | (dsimp only; omega)) _) | (refine Below.alloc ?_ (by first | omega | (simp; done) | (simp; omega) | (dsimp only; omega)) _)))))).mono ?_; rintro e w1 ⟨rfl, hb1⟩; obtain ⟨hc1, hf1, hz1⟩ := bcell3 hb1; have HB1 : Hid (Below w.heap.size w w1) := below_then (by (repeat (first | exact Below.refl _ _ | apply Below.drew | apply below_drewN | (refine Below.setCell ?_ (by first | omega | (simp; done) | (simp; omega) | (dsimp only; omega)) _) | (refine Below.alloc ?_ (by first | omega | (simp; done) | (simp; omega) | (dsimp only; omega)) _)))) hb1) | (go_at_call 111; refine (l1In_c _ _ _ _).mono ?_; rintro e w2 ⟨rfl, rfl⟩) | (go_at_call 87; refine (l2Set_c _ _).mono ?_; rintro e w3 ⟨rfl, rfl⟩))
    go_ret2
    exact ⟨ret_tup HP.out, HB1.out⟩
  obtain ⟨k0, k1⟩ := inB_true.1 b2
  obtain ⟨l0, l1⟩ := setB_true.1 b3
  have ok := worksB_true.1 b1
  obtain ⟨kn, rfl⟩ := Int.eq_ofNat_of_zero_le k0
  obtain ⟨ln, rfl⟩ := Int.eq_ofNat_of_zero_le l0
  have hkn : kn < gs.length := by omega
  have hln : ln < 64 := by omega
  obtain ⟨b, off, x, y, z, u, rfl, HX, hbs, e0, e1, e2, e3⟩ := hd.at kn hkn
  obtain ⟨f1, f2, f3, f4, f5, f6, f7⟩ := gate_facts ok hkn HX.out
  obtain ⟨zn, rfl⟩ := Int.eq_ofNat_of_zero_le f4
  have OK := Lib.hid ok; clear ok
  have HP : Hid (#[Value.bool (openB gs[kn]! ln), Value.bool true] = #[.bool (pGateOpen ⟨s, gs, ps⟩ kn ln).1, .bool (pGateOpen ⟨s, gs, ps⟩ kn ln).2]) := by show _ = _; simp [pGateOpen, b1, b2, b3]
  have hbs1 : b < w.heap.size + 1 := by omega
  go_enter Try.func57, Try.ntmps57
  go_wp2_with (first | (go_at_call 72; refine (l8Works_c _ ⟨s, gs, ps⟩ _ (hm.later (by (repeat (first | exact Below.refl _ _ | apply Below.drew | apply below_drewN | (refine Below.setCell ?_ (by first | omega | (simp; done) | (simp; omega) | (dsimp only; omega)) _) | (refine Below.alloc ?_ (by first | omega | (simp; done) | (simp; omega) | (dsimp only; omega)) _)))))).mono ?_; rintro e w1 ⟨rfl, hb1⟩; obtain ⟨hc1, hf1, hz1⟩ := bcell3 hb1; have HB1 : Hid (Below w.heap.size w w1) := below_then (by (repeat (first | exact Below.refl _ _ | apply Below.drew | apply below_drewN | (refine Below.setCell ?_ (by first | omega | (simp; done) | (simp; omega) | (dsimp only; omega)) _) | (refine Below.alloc ?_ (by first | omega | (simp; done) | (simp; omega) | (dsimp only; omega)) _)))) hb1) | (go_at_call 111; refine (l1In_c _ _ _ _).mono ?_; rintro e w2 ⟨rfl, rfl⟩) | (go_at_call 87; refine (l2Set_c _ _).mono ?_; rintro e w3 ⟨rfl, rfl⟩) | (go_at_call 112; refine (l8Open_c _ _ _ _ _ (by omega) (by omega) _).mono ?_; rintro e w4 ⟨rfl, hb4⟩))
  go_ret2
  refine ⟨ret_tup (Eq.trans ?_ HP.out), below_then HB1.out hb4⟩
  show #[Value.bool (openB (x, y, (zn : Int), u) ln), Value.bool true] = _
  rw [HX.out]
set_option maxHeartbeats 2000000 in
theorem implGateOpen_c (v : Value) (m : Wk) (k l : Int) (w : World) (hm : WkAt w v m) (wk : wfI k) (wl : wfI l) : Calls Try.prog 56 #[v, .int .i64 k, .int .i64 l] w fun e w' =>
    e = .returned (.tuple #[.bool (pGateOpen m k l).1, .bool (pGateOpen m k l).2]) ∧ Below w.heap.size w w' := by
  have hM := hm
  obtain ⟨⟨ad, cd, ak, ck, rfl, hd, hk'⟩, nd, nk⟩ := hM
  obtain ⟨s, gs, ps⟩ := m
  dsimp only at *
  cases b1 : worksB ⟨s, gs, ps⟩
  · have HP : Hid (#[Value.bool false, Value.bool false] = #[.bool (pGateOpen ⟨s, gs, ps⟩ k l).1, .bool (pGateOpen ⟨s, gs, ps⟩ k l).2]) := by show _ = _; simp [pGateOpen, b1]
    go_enter Try.func56, Try.ntmps56
    go_wp2_with (first | (go_at_call 40; refine (isWorks_c _ ⟨s, gs, ps⟩ _ (hm.later (by (repeat (first | exact Below.refl _ _ | apply Below.drew | apply below_drewN | (refine Below.setCell ?_ (by first | omega | (simp; done) | (simp; omega) | (dsimp only; omega)) _) | (refine Below.alloc ?_ (by first | omega | (simp; done) | (simp; omega) | (dsimp only; omega)) _)))))).mono ?_; rintro e w1 ⟨rfl, hb1⟩; obtain ⟨hc1, hf1, hz1⟩ := bcell3 hb1; have HB1 : Hid (Below w.heap.size w w1) := below_then (by (repeat (first | exact Below.refl _ _ | apply Below.drew | apply below_drewN | (refine Below.setCell ?_ (by first | omega | (simp; done) | (simp; omega) | (dsimp only; omega)) _) | (refine Below.alloc ?_ (by first | omega | (simp; done) | (simp; omega) | (dsimp only; omega)) _)))) hb1) | (go_at_call 86; refine (within_c _ _ _ _).mono ?_; rintro e w2 ⟨rfl, rfl⟩) | (go_at_call 91; refine (isSet_c _ _).mono ?_; rintro e w3 ⟨rfl, rfl⟩))
    go_ret2
    exact ⟨ret_tup HP.out, HB1.out⟩
  cases b2 : inB k 0 (gs.length - 1)
  · have HP : Hid (#[Value.bool false, Value.bool false] = #[.bool (pGateOpen ⟨s, gs, ps⟩ k l).1, .bool (pGateOpen ⟨s, gs, ps⟩ k l).2]) := by show _ = _; simp [pGateOpen, b2]
    go_enter Try.func56, Try.ntmps56
    go_wp2_with (first | (go_at_call 40; refine (isWorks_c _ ⟨s, gs, ps⟩ _ (hm.later (by (repeat (first | exact Below.refl _ _ | apply Below.drew | apply below_drewN | (refine Below.setCell ?_ (by first | omega | (simp; done) | (simp; omega) | (dsimp only; omega)) _) | (refine Below.alloc ?_ (by first | omega | (simp; done) | (simp; omega) | (dsimp only; omega)) _)))))).mono ?_; rintro e w1 ⟨rfl, hb1⟩; obtain ⟨hc1, hf1, hz1⟩ := bcell3 hb1; have HB1 : Hid (Below w.heap.size w w1) := below_then (by (repeat (first | exact Below.refl _ _ | apply Below.drew | apply below_drewN | (refine Below.setCell ?_ (by first | omega | (simp; done) | (simp; omega) | (dsimp only; omega)) _) | (refine Below.alloc ?_ (by first | omega | (simp; done) | (simp; omega) | (dsimp only; omega)) _)))) hb1) | (go_at_call 86; refine (within_c _ _ _ _).mono ?_; rintro e w2 ⟨rfl, rfl⟩) | (go_at_call 91; refine (isSet_c _ _).mono ?_; rintro e w3 ⟨rfl, rfl⟩))
    go_ret2
    exact ⟨ret_tup HP.out, HB1.out⟩
  cases b3 : setB l
  · have HP : Hid (#[Value.bool false, Value.bool false] = #[.bool (pGateOpen ⟨s, gs, ps⟩ k l).1, .bool (pGateOpen ⟨s, gs, ps⟩ k l).2]) := by show _ = _; simp [pGateOpen, b3]
    go_enter Try.func56, Try.ntmps56
    go_wp2_with (first | (go_at_call 40; refine (isWorks_c _ ⟨s, gs, ps⟩ _ (hm.later (by (repeat (first | exact Below.refl _ _ | apply Below.drew | apply below_drewN | (refine Below.setCell ?_ (by first | omega | (simp; done) | (simp; omega) | (dsimp only; omega)) _) | (refine Below.alloc ?_ (by first | omega | (simp; done) | (simp; omega) | (dsimp only; omega)) _)))))).mono ?_; rintro e w1 ⟨rfl, hb1⟩; obtain ⟨hc1, hf1, hz1⟩ := bcell3 hb1; have HB1 : Hid (Below w.heap.size w w1) := below_then (by (repeat (first | exact Below.refl _ _ | apply Below.drew | apply below_drewN | (refine Below.setCell ?_ (by first | omega | (simp; done) | (simp; omega) | (dsimp only; omega)) _) | (refine Below.alloc ?_ (by first | omega | (simp; done) | (simp; omega) | (dsimp only; omega)) _)))) hb1) | (go_at_call 86; refine (within_c _ _ _ _).mono ?_; rintro e w2 ⟨rfl, rfl⟩) | (go_at_call 91; refine (isSet_c _ _).mono ?_; rintro e w3 ⟨rfl, rfl⟩))
    go_ret2
    exact ⟨ret_tup HP.out, HB1.out⟩
  obtain ⟨k0, k1⟩ := inB_true.1 b2
  obtain ⟨l0, l1⟩ := setB_true.1 b3
  have ok := worksB_true.1 b1
  obtain ⟨kn, rfl⟩ := Int.eq_ofNat_of_zero_le k0
  obtain ⟨ln, rfl⟩ := Int.eq_ofNat_of_zero_le l0
  have hkn : kn < gs.length := by omega
  have hln : ln < 64 := by omega
  obtain ⟨b, off, x, y, z, u, rfl, HX, hbs, e0, e1, e2, e3⟩ := hd.at kn hkn
  obtain ⟨f1, f2, f3, f4, f5, f6, f7⟩ := gate_facts ok hkn HX.out
  obtain ⟨zn, rfl⟩ := Int.eq_ofNat_of_zero_le f4
  have OK := Lib.hid ok; clear ok
  have HP : Hid (#[Value.bool (openB gs[kn]! ln), Value.bool true] = #[.bool (pGateOpen ⟨s, gs, ps⟩ kn ln).1, .bool (pGateOpen ⟨s, gs, ps⟩ kn ln).2]) := by show _ = _; simp [pGateOpen, b1, b2, b3]
  have hbs1 : b < w.heap.size + 1 := by omega
  go_enter Try.func56, Try.ntmps56
  go_wp2_with (first | (go_at_call 40; refine (isWorks_c _ ⟨s, gs, ps⟩ _ (hm.later (by (repeat (first | exact Below.refl _ _ | apply Below.drew | apply below_drewN | (refine Below.setCell ?_ (by first | omega | (simp; done) | (simp; omega) | (dsimp only; omega)) _) | (refine Below.alloc ?_ (by first | omega | (simp; done) | (simp; omega) | (dsimp only; omega)) _)))))).mono ?_; rintro e w1 ⟨rfl, hb1⟩; obtain ⟨hc1, hf1, hz1⟩ := bcell3 hb1; have HB1 : Hid (Below w.heap.size w w1) := below_then (by (repeat (first | exact Below.refl _ _ | apply Below.drew | apply below_drewN | (refine Below.setCell ?_ (by first | omega | (simp; done) | (simp; omega) | (dsimp only; omega)) _) | (refine Below.alloc ?_ (by first | omega | (simp; done) | (simp; omega) | (dsimp only; omega)) _)))) hb1) | (go_at_call 86; refine (within_c _ _ _ _).mono ?_; rintro e w2 ⟨rfl, rfl⟩) | (go_at_call 91; refine (isSet_c _ _).mono ?_; rintro e w3 ⟨rfl, rfl⟩) | (go_at_call 110; refine (isOpen_c _ ⟨s, gs, ps⟩ _ (hm.later (by exact HB1.out)) OK.out _ _ (by show _ < gs.length; omega) (by omega) _ HX).mono ?_; rintro e w4 ⟨rfl, hb4⟩))
  go_ret2
  refine ⟨ret_tup (Eq.trans ?_ HP.out), below_then HB1.out hb4⟩
  show #[Value.bool (openB (x, y, (zn : Int), u) ln), Value.bool true] = _
  rw [HX.out]
end Go.Proofs.Ytkhackdbnmcffaa
