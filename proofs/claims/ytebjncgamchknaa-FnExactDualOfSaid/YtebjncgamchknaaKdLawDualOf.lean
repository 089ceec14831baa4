/- The law FnExactDualOf, walked. Printed by gen_law3.py. -/
import Derived.Test.YtebjncgamchknaaKdChg
import Derived.Test.YtebjncgamchknaaKdOpen
import Derived.Test.YtebjncgamchknaaKdClut5
set_option linter.unusedVariables false
set_option linter.unusedSimpArgs false
namespace Go.Proofs.Ytebjncgamchknaa
open Go.RowKit Go.KD
attribute [local go_sem] later_cell later_frozen
set_option maxHeartbeats 16000000 in
theorem lawDualOf_c (as0 : Option Addr) (cs0 : Nat) (ls0 : List Int) (w : World) (hs0 : IC w as0 ls0) (ns0 : ls0.length ≤ maxLen) (ws0 : ∀ x ∈ ls0, wfI x) :
    Calls Try.prog 6 #[.slice as0 ls0.length cs0] w fun e w' => e = .returned (.bool true) ∧ Below w.heap.size w w' := by
  by_cases g0 : ls0.length ≤ 1048576
  case neg =>
    have gb0 : decide ((1048576 : Int) < (ls0.length : Int)) = true := by simp; omega
    go_enter Try.func6, Try.ntmps6
    go_wp2_with fail
    go_ret
    exact ⟨rfl, by (repeat (first | exact Below.refl _ _ | apply Below.drew | apply below_drewN | (refine Below.setCell ?_ (by first | omega | (simp; done) | (simp; omega) | (dsimp only; omega)) _) | (refine Below.alloc ?_ (by first | omega | (simp; done) | (simp; omega) | (dsimp only; omega)) _)))⟩
  case pos =>
    have gb0 : decide ((1048576 : Int) < (ls0.length : Int)) = false := by simp; omega
    obtain ⟨R, b, hp⟩ : ∃ R b, pDualOf ls0 = (R, b) := ⟨_, _, rfl⟩
    have hR : R.length ≤ 1000000 := by have := pDualOf_len ls0; rw [hp] at this; exact this
    have HP := Lib.hid hp; clear hp
    go_enter Try.func6, Try.ntmps6
    go_wp2_with fail
    refine (toIntS_c _ _ _ _ hs0 g0).mono ?_
    rintro e w1 ⟨v1, rfl, ho1, hb1⟩
    obtain ⟨a1, c1, rfl, -, hi1⟩ := (Own.of ho1).ic
    have HI1 := Lib.hid hi1
    clear ho1 hi1
    have z1 : w.heap.size ≤ w1.heap.size := hb1.size
    have HB1 : Hid (Below w.heap.size w w1) := hb1
    clear hb1
    go_wp2_with fail
    refine (specDualOf_c _ _ ls0 _ R b HP.out HI1.out g0 ws0).mono ?_
    rintro e w2 ⟨aw, cw, rfl, hw, hb2⟩
    have HW := Lib.hid hw
    clear hw
    have z2 : w1.heap.size ≤ w2.heap.size := hb2.size
    have HB2 : Hid (Below w.heap.size w w2) := below_then HB1.out hb2
    clear hb2
    go_wp2_with fail
    refine (toIntS_c _ _ _ _ (hs0.later HB2.out) g0).mono ?_
    rintro e w3 ⟨v3, rfl, ho3, hb3⟩
    have HX_3 : Hid (Own w2.heap.size w3.heap.size w3 3 1 v3 ls0.length (ints ls0)) := Own.of ho3
    obtain ⟨a3, c3, rfl⟩ := HX_3.out.slice
    clear ho3
    have z3 : w2.heap.size ≤ w3.heap.size := hb3.size
    have HB3 : Hid (Below w.heap.size w w3) := below_then HB2.out hb3
    have HQ3 : Hid (Below w2.heap.size w2 w3) := hb3
    clear hb3
    go_wp2_with fail
    refine (implDualOf_c _ _ ls0 _ R b HP.out (ic_of HX_3.out) g0 ws0).mono ?_
    rintro e w4 ⟨vg, rfl, hog, hb4⟩
    have HG_4 : Hid (Own w3.heap.size w4.heap.size w4 3 1 vg R.length (ints R)) := Own.of hog
    obtain ⟨ag, cg, rfl⟩ := HG_4.out.slice
    clear hog
    have z4 : w3.heap.size ≤ w4.heap.size := hb4.size
    have HB4 : Hid (Below w.heap.size w w4) := below_then HB3.out hb4
    have HQ4 : Hid (Below w2.heap.size w2 w4) := below_then HQ3.out hb4
    have HX_4 : Hid (Own w2.heap.size w3.heap.size w4 3 1 (.slice a3 ls0.length c3) ls0.length (ints ls0)) := HX_3.out.later hb4 (by omega)
    clear hb4 HX_3
    go_wp2_with fail
    refine (eqIntS_c _ _ _ _ R R _ (ic_of HG_4.out) (HW.out.later HQ4.out) (by omega) (by omega)).mono ?_
    rintro e w5 ⟨rfl, hb5⟩
    have z5 : w4.heap.size ≤ w5.heap.size := hb5.size
    have HB5 : Hid (Below w.heap.size w w5) := below_then HB4.out hb5
    have HQ5 : Hid (Below w2.heap.size w2 w5) := below_then HQ4.out hb5
    have HX_5 : Hid (Own w2.heap.size w3.heap.size w5 3 1 (.slice a3 ls0.length c3) ls0.length (ints ls0)) := HX_4.out.later hb5 (by omega)
    have HG_5 : Hid (Own w3.heap.size w4.heap.size w5 3 1 (.slice ag R.length cg) R.length (ints R)) := HG_4.out.later hb5 (by omega)
    clear hb5 HX_4 HG_4
    go_wp2_with fail
    refine (toIntS_c _ _ _ _ (hs0.later HB5.out) g0).mono ?_
    rintro e w6 ⟨v6, rfl, ho6, hb6⟩
    have HY_6 : Hid (Own w5.heap.size w6.heap.size w6 3 1 v6 ls0.length (ints ls0)) := Own.of ho6
    obtain ⟨a6, c6, rfl⟩ := HY_6.out.slice
    clear ho6
    have z6 : w5.heap.size ≤ w6.heap.size := hb6.size
    have HB6 : Hid (Below w.heap.size w w6) := below_then HB5.out hb6
    have HQ6 : Hid (Below w2.heap.size w2 w6) := below_then HQ5.out hb6
    have HX_6 : Hid (Own w2.heap.size w3.heap.size w6 3 1 (.slice a3 ls0.length c3) ls0.length (ints ls0)) := HX_5.out.later hb6 (by omega)
    have HG_6 : Hid (Own w3.heap.size w4.heap.size w6 3 1 (.slice ag R.length cg) R.length (ints R)) := HG_5.out.later hb6 (by omega)
    clear hb6 HX_5 HG_5
    go_wp2_with fail
    refine (eqIntS_c _ _ _ _ ls0 ls0 _ (ic_of HX_6.out) (ic_of HY_6.out) g0 g0).mono ?_
    rintro e w7 ⟨rfl, hb7⟩
    have z7 : w6.heap.size ≤ w7.heap.size := hb7.size
    have HB7 : Hid (Below w.heap.size w w7) := below_then HB6.out hb7
    have HQ7 : Hid (Below w2.heap.size w2 w7) := below_then HQ6.out hb7
    have HX_7 : Hid (Own w2.heap.size w3.heap.size w7 3 1 (.slice a3 ls0.length c3) ls0.length (ints ls0)) := HX_6.out.later hb7 (by omega)
    have HG_7 : Hid (Own w3.heap.size w4.heap.size w7 3 1 (.slice ag R.length cg) R.length (ints R)) := HG_6.out.later hb7 (by omega)
    clear hb7 HX_6 HG_6
    go_wp2_with fail
    refine (markIntS_c _ _ _ 3 _ ls0 _ _ rfl HX_7.out.row g0 (by omega) (by omega)).mono ?_
    rintro e w8 ⟨rfl, hr8, hg8⟩
    have hc8 : Chg w2.heap.size w3.heap.size w7 w8 := Chg.of_grown hg8 HX_7.out.blocks
    clear hr8 hg8
    have z8 : w7.heap.size ≤ w8.heap.size := hc8.size
    have HB8 : Hid (Below w.heap.size w w8) := HB7.out.trans (hc8.below (by omega) (by omega))
    have HQ8 : Hid (Below w2.heap.size w2 w8) := HQ7.out.trans (hc8.below (by omega) (by omega))
    have HG_8 : Hid (Own w3.heap.size w4.heap.size w8 3 1 (.slice ag R.length cg) R.length (ints R)) := HG_7.out.chg hc8 (by omega)
    clear hc8 HG_7
    clear HX_7
    go_wp2_with fail
    refine (eqIntS_c _ _ _ _ R R _ (ic_of HG_8.out) (HW.out.later HQ8.out) (by omega) (by omega)).mono ?_
    rintro e w9 ⟨rfl, hb9⟩
    have z9 : w8.heap.size ≤ w9.heap.size := hb9.size
    have HB9 : Hid (Below w.heap.size w w9) := below_then HB8.out hb9
    have HQ9 : Hid (Below w2.heap.size w2 w9) := below_then HQ8.out hb9
    have HG_9 : Hid (Own w3.heap.size w4.heap.size w9 3 1 (.slice ag R.length cg) R.length (ints R)) := HG_8.out.later hb9 (by omega)
    clear hb9 HG_8
    go_wp2_with fail
    refine (markIntS_c _ _ _ 3 _ R _ _ rfl HG_9.out.row (by omega) (by omega) (by omega)).mono ?_
    rintro e w10 ⟨rfl, hr10, hg10⟩
    have hc10 : Chg w3.heap.size w4.heap.size w9 w10 := Chg.of_grown hg10 HG_9.out.blocks
    have HM_10 : Hid (Own w3.heap.size w4.heap.size w10 3 1 (.slice ag R.length cg) R.length (ints (marks R.length 1))) := ⟨hr10, HG_9.out.top⟩
    clear hr10 hg10
    have z10 : w9.heap.size ≤ w10.heap.size := hc10.size
    have HB10 : Hid (Below w.heap.size w w10) := HB9.out.trans (hc10.below (by omega) (by omega))
    have HQ10 : Hid (Below w2.heap.size w2 w10) := HQ9.out.trans (hc10.below (by omega) (by omega))
    clear hc10
    clear HG_9
    go_wp2_with fail
    refine (heldIntS_c _ _ R.length _ _ (ic_marks HM_10.out) (by omega) (by omega) (by omega)).mono ?_
    rintro e wh ⟨rfl, rfl⟩
    go_wp2_with fail
    refine (toIntS_c _ _ _ _ (hs0.later HB10.out) g0).mono ?_
    rintro e w11 ⟨v11, rfl, ho11, hb11⟩
    have HZ_11 : Hid (Own w10.heap.size w11.heap.size w11 3 1 v11 ls0.length (ints ls0)) := Own.of ho11
    obtain ⟨a11, c11, rfl⟩ := HZ_11.out.slice
    clear ho11
    have z11 : w10.heap.size ≤ w11.heap.size := hb11.size
    have HB11 : Hid (Below w.heap.size w w11) := below_then HB10.out hb11
    have HQ11 : Hid (Below w2.heap.size w2 w11) := below_then HQ10.out hb11
    have HM_11 : Hid (Own w3.heap.size w4.heap.size w11 3 1 (.slice ag R.length cg) R.length (ints (marks R.length 1))) := HM_10.out.later hb11 (by omega)
    clear hb11 HM_10
    go_wp2_with fail
    refine (implDualOf_c _ _ ls0 _ R b HP.out (ic_of HZ_11.out) g0 ws0).mono ?_
    rintro e w12 ⟨vh, rfl, hoh, hb12⟩
    have HH_12 : Hid (Own w11.heap.size w12.heap.size w12 3 1 vh R.length (ints R)) := Own.of hoh
    obtain ⟨ah, ch, rfl⟩ := HH_12.out.slice
    clear hoh
    have z12 : w11.heap.size ≤ w12.heap.size := hb12.size
    have HB12 : Hid (Below w.heap.size w w12) := below_then HB11.out hb12
    have HQ12 : Hid (Below w2.heap.size w2 w12) := below_then HQ11.out hb12
    have HM_12 : Hid (Own w3.heap.size w4.heap.size w12 3 1 (.slice ag R.length cg) R.length (ints (marks R.length 1))) := HM_11.out.later hb12 (by omega)
    clear hb12 HM_11
    go_wp2_with fail
    refine (eqIntS_c _ _ _ _ R R _ (ic_of HH_12.out) (HW.out.later HQ12.out) (by omega) (by omega)).mono ?_
    rintro e w13 ⟨rfl, hb13⟩
    have z13 : w12.heap.size ≤ w13.heap.size := hb13.size
    have HB13 : Hid (Below w.heap.size w w13) := below_then HB12.out hb13
    have HQ13 : Hid (Below w2.heap.size w2 w13) := below_then HQ12.out hb13
    have HM_13 : Hid (Own w3.heap.size w4.heap.size w13 3 1 (.slice ag R.length cg) R.length (ints (marks R.length 1))) := HM_12.out.later hb13 (by omega)
    clear hb13 HM_12
    go_wp2_with fail
    refine (heldIntS_c _ _ R.length _ _ (ic_marks HM_13.out) (by omega) (by omega) (by omega)).mono ?_
    rintro e wh ⟨rfl, rfl⟩
    go_wp2_with fail
    go_ret
    exact ⟨rfl, HB13.out⟩
end Go.Proofs.Ytebjncgamchknaa
