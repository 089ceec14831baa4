/- The law FnExactMeetsAll, walked. -/
import Derived.Test.YtebjncgamchknaaKdLaws2
import Derived.Test.YtebjncgamchknaaKdOpen
import Derived.Test.YtebjncgamchknaaKdClut5
import Derived.Deep.RegionHeld3
set_option linter.unusedVariables false
set_option linter.unusedSimpArgs false
namespace Go.Proofs.Ytebjncgamchknaa
open Go.RowKit Go.KD
attribute [local go_sem] later_cell later_frozen
set_option maxHeartbeats 8000000 in
theorem lawMeetsAll_c (as0 : Option Addr) (cs0 : Nat) (ls0 : List Int) (i1 : Int) (w : World) (hs0 : IC w as0 ls0) (ns0 : ls0.length ≤ maxLen) (ws0 : ∀ x ∈ ls0, wfI x) (wi1 : wfI i1) :
    Calls Try.prog 4 #[.slice as0 ls0.length cs0, .int .i64 i1] w fun e w' => e = .returned (.bool true) ∧ Below w.heap.size w w' := by
  by_cases g0 : ls0.length ≤ 1048576
  case neg =>
    have gb0 : decide ((1048576 : Int) < (ls0.length : Int)) = true := by simp; omega
    go_enter Try.func4, Try.ntmps4
    go_wp2_with fail
    go_ret
    exact ⟨rfl, by (repeat (first | exact Below.refl _ _ | apply Below.drew | apply below_drewN | (refine Below.setCell ?_ (by first | omega | (simp; done) | (simp; omega) | (dsimp only; omega)) _) | (refine Below.alloc ?_ (by first | omega | (simp; done) | (simp; omega) | (dsimp only; omega)) _)))⟩
  case pos =>
    have gb0 : decide ((1048576 : Int) < (ls0.length : Int)) = false := by simp; omega
    go_enter Try.func4, Try.ntmps4
    go_wp2_with fail
    refine (toIntS_c _ _ _ _ (hs0.later (Below.refl _ _ : Below w.heap.size w w)) g0).mono ?_
    rintro e w1 ⟨v1, rfl, ho1, hb1⟩
    have z1 : w.heap.size ≤ w1.heap.size := by have := hb1.size; (try simp at this); omega
    have HB1 : Hid (Below w.heap.size w w1) := below_then ((Below.refl _ _ : Below w.heap.size w w)) hb1
    have HO1 := Lib.hid (Own.of ho1); clear ho1
    obtain ⟨a1, c1, rfl, -, hi1⟩ := HO1.out.ic
    go_wp2_with fail
    refine (specMeetsAll_c _ _ ls0 _ _ hi1 g0 ws0 wi1).mono ?_
    rintro e w2 ⟨rfl, hb2⟩
    have z2 : w1.heap.size ≤ w2.heap.size := by have := hb2.size; (try simp at this); omega
    have HB2 : Hid (Below w.heap.size w w2) := below_then (HB1.out) hb2
    go_wp2_with fail
    refine (toIntS_c _ _ _ _ (hs0.later HB2.out) g0).mono ?_
    rintro e w3 ⟨v3, rfl, ho3, hb3⟩
    have z3 : w2.heap.size ≤ w3.heap.size := by have := hb3.size; (try simp at this); omega
    have HB3 : Hid (Below w.heap.size w w3) := below_then (HB2.out) hb3
    have HO3 := Lib.hid (Own.of ho3); clear ho3
    obtain ⟨a3, c3, rfl, -, hi3⟩ := HO3.out.ic
    go_wp2_with fail
    refine (implMeetsAll_c _ _ ls0 _ _ hi3 g0 ws0 wi1).mono ?_
    rintro e w4 ⟨rfl, hb4⟩
    have z4 : w3.heap.size ≤ w4.heap.size := by have := hb4.size; (try simp at this); omega
    have HB4 : Hid (Below w.heap.size w w4) := below_then (HB3.out) hb4
    go_wp2_with fail
    refine (toIntS_c _ _ _ _ (hs0.later HB4.out) g0).mono ?_
    rintro e w5 ⟨v5, rfl, ho5, hb5⟩
    have z5 : w4.heap.size ≤ w5.heap.size := by have := hb5.size; (try simp at this); omega
    have HB5 : Hid (Below w.heap.size w w5) := below_then (HB4.out) hb5
    have HO5 := Lib.hid (Own.of ho5); clear ho5
    obtain ⟨a5, c5, rfl, -, hi5⟩ := HO5.out.ic
    go_wp2_with fail
    refine (eqIntS_c _ _ _ _ ls0 ls0 _ (hi3.later (below_then hb4 hb5)) hi5 g0 g0).mono ?_
    rintro e w6 ⟨rfl, hb6⟩
    have z6 : w5.heap.size ≤ w6.heap.size := by have := hb6.size; (try simp at this); omega
    have HB6 : Hid (Below w.heap.size w w6) := below_then (HB5.out) hb6
    go_wp2_with fail
    go_ret
    exact ⟨rfl, HB6.out⟩
end Go.Proofs.Ytebjncgamchknaa
