/- Contracts of GateOpen. -/
import Derived.Test.YtldogbahbjompaaKdValidA
import Derived.Test.YtldogbahbjompaaKdValidC
import Derived.Test.YtldogbahbjompaaKdMem
import Derived.Test.YtldogbahbjompaaKdOpen
set_option linter.unusedVariables false
set_option linter.unusedSimpArgs false
namespace Go.KD
/-- Is a gate open? -/
def openB (g : D4) (l : Int) : Bool := decide (popc (g.2.2.1.toNat &&& l.toNat) % 2 = g.2.2.2)
noncomputable def pGateOpen (m : Wk) (k l : Int) : Bool × Bool :=
  if worksB m && inB k 0 (m.gates.length - 1) && setB l then (openB m.gates[k.toNat]! l, true) else (false, false)
theorem gate_facts {m : Wk} (h : WkOk m) {k : Nat} (hk : k < m.gates.length) {x y z u : Int} (hg : m.gates[k]! = (x, y, z, u)) : 0 ≤ x ∧ x < y ∧ y < m.size ∧ 0 ≤ z ∧ z < 64 ∧ 0 ≤ u ∧ u ≤ 1 := by
  have := h.gt k hk
  rw [gateB_eq hg] at this
  simp only [Bool.and_eq_true, inB_true, setB_true] at this
  omega
end Go.KD
namespace Go.Proofs.Ytldogbahbjompaa
open Go.RowKit Go.KD
attribute [local go_sem] later_cell later_frozen
theorem ret_tup {a b : Array Value} (h : a = b) : Ending.returned (.tuple a) = .returned (.tuple b) := by rw [h]
theorem and_lt64 {a : Nat} (b : Nat) (h : a < 64) : a &&& b < 64 := Nat.lt_of_le_of_lt Nat.and_le_left h
set_option maxHeartbeats 1000000 in
theorem l8Open_c (x y u : Int) (z l : Nat) (hz : z < 64) (hl : l < 64) (w : World) : Calls Try.prog 144 #[.agg #[.int .i64 x, .int .i64 y, .int .i64 z, .int .i64 u], .int .i64 l] w fun e w' =>
    e = .returned (.bool (openB (x, y, z, u) l)) ∧ Below w.heap.size w w' := by
  have hp : 0 ≤ popc (z &&& l) % 2 := by unfold popc; omega
  have HA : Hid (bits .and .i64 (z : Int) (l : Int) = ((z &&& l : Nat) : Int)) := i64_and z l (by omega) (by omega)
  go_enter Try.func144, Try.ntmps144
  go_wp2
  refine wp_region_later (w.heap.size + 1) (by kernel_rfl) (by kernel_rfl) ?_
  repeat (first | go_big_quiet_skip | (go_big_quiet_want; go_big_quiet_op; (first | go_big_quiet_on | (apply Exists.intro; refine ⟨fun W => ?_, ?_⟩; (first | (go_at_call 69; exact Calls.later_same (l8Odd_c z l (z &&& l) (and_lt64 l hz) HA.out _))); go_big_quiet_on))))
  refine wpQuiet_nil ?_; rintro _ ⟨⟨w9, hb9⟩, rfl⟩; obtain ⟨hc9, hf9, hz9⟩ := bcell3 hb9
  go_wp2
  go_ret
  exact ⟨ret_bool (by rw [Bool.eq_iff_iff]; simp [openB]), ((Below.refl _ _).alloc (Nat.le_refl _) _).trans (hb9.mono (by omega))⟩
set_option maxHeartbeats 1000000 in
theorem isOpen_c (v : Value) (m : Wk) (w : World) (hm : WkAt w v m) (ok : WkOk m) (k l : Nat) (hk : k < m.gates.length) (hl : l < 64) (g : D4) (hg : Hid (m.gates[k]! = g)) : Calls Try.prog 106 #[v, .int .i64 k, .int .i64 l] w fun e w' =>
    e = .returned (.bool (openB g l)) ∧ Below w.heap.size w w' := by
  obtain ⟨⟨ad, cd, ak, ck, rfl, hd, hk'⟩, nd, nk⟩ := hm
  have hng := ok.ng
  obtain ⟨s, gs, ps⟩ := m
  dsimp only at *
  obtain ⟨b, off, x, y, z, u, rfl, HX, hbs, e0, e1, e2, e3⟩ := hd.at k hk
  obtain rfl : g = (x, y, z, u) := hg.out.symm.trans HX.out
  obtain ⟨f1, f2, f3, f4, f5, f6, f7⟩ := gate_facts ok hk HX.out
  obtain ⟨zn, rfl⟩ := Int.eq_ofNat_of_zero_le f4
  have hp : 0 ≤ popc (zn &&& l) % 2 := by unfold popc; omega
  have hzn : zn < 64 := by omega
  have ea : bits .and .i64 (zn : Int) (l : Int) = ((zn &&& l : Nat) : Int) := i64_and zn l (by omega) (by omega)
  have HR : Hid (openB (x, y, (zn : Int), u) l = decide (popc (zn &&& l) % 2 = u)) := by show _ = _; simp [openB]
  have hbs1 : b < w.heap.size + 1 := by omega
  obtain ⟨y0, hy0⟩ : ∃ y0, y0 = zn &&& l := ⟨_, rfl⟩
  rw [← hy0] at ea
  have HY := Lib.hid hy0; clear hy0
  have hy64 : y0 < 64 := by have := and_lt64 l hzn; have := HY.out; omega
  go_enter Try.func106, Try.ntmps106
  go_wp2
  refine wp_region_later (w.heap.size + 1) (by kernel_rfl) (by kernel_rfl) ?_
  repeat (first | go_big_quiet_skip | (go_big_quiet_want; go_big_quiet_op; (first | go_big_quiet_on | (apply Exists.intro; refine ⟨fun W => ?_, ?_⟩; (first | (go_at_call 73; exact Calls.later_same (odd_c y0 hy64 _))); go_big_quiet_on))))
  refine wpQuiet_nil ?_; rintro _ ⟨⟨w9, hb9⟩, rfl⟩; obtain ⟨hc9, hf9, hz9⟩ := bcell3 hb9
  go_wp2
  go_ret
  exact ⟨ret_bool (by rw [HR.out, ← HY.out]; first | rfl | (rw [Bool.eq_iff_iff]; simp)), ((Below.refl _ _).alloc (Nat.le_refl _) _).trans (hb9.mono (by omega))⟩
