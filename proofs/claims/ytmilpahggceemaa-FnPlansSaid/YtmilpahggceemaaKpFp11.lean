/- The law FnPlans, walked. Printed by dev/mk_lawplans.py. -/
import Derived.Test.YtmilpahggceemaaKpFp9
import Derived.Test.YtmilpahggceemaaKpFp6
import Derived.Test.YtmilpahggceemaaKpFp7
import Derived.Test.YtmilpahggceemaaKpFp10
set_option linter.unusedVariables false
set_option linter.unusedSimpArgs false
namespace Go.KD
open Go.RowKit
theorem plan_cases (m : Wk) (p : List Int) : (pRunPlan m p = (0, 0, false) ∧ pIsPlan m p = (false, false)) ∨ (WkOk m ∧ pRunPlan m p = runP m p ∧ pIsPlan m p = ((runP m p).2.2, true)) := by
  unfold pRunPlan pIsPlan
  cases h : worksB m
  · exact .inl ⟨rfl, rfl⟩
  · exact .inr ⟨worksB_true.1 h, rfl, rfl⟩
theorem plan_ok {m : Wk} {p : List Int} {x l : Int} {ok is one : Bool} (h1 : pRunPlan m p = (x, l, ok)) (h2 : pIsPlan m p = (is, one)) : ok = (one && is) := by
  rcases plan_cases m p with ⟨e1, e2⟩ | ⟨-, e1, e2⟩
  · rw [h1] at e1; rw [h2] at e2; cases e1; cases e2; rfl
  · rw [h1] at e1; rw [h2] at e2
    have : ok = (runP m p).2.2 := by rw [← e1]
    cases e2; simpa using this
theorem plan_wf {m : Wk} {p : List Int} {x l : Int} {ok : Bool} (h : pRunPlan m p = (x, l, ok)) : wfI x ∧ wfI l ∧ (ok = true → pAreApart m 0 0 x l = (false, true)) := by
  have hz : wfI 0 := wfI_small (by decide) (by decide)
  rcases plan_cases m p with ⟨e1, -⟩ | ⟨hk, e1, -⟩
  · rw [h] at e1; cases e1
    exact ⟨hz, hz, fun h => (by cases h)⟩
  · rw [h] at e1
    cases ok
    · have : (x = 0 ∧ l = 0) := by
        unfold runP at e1
        split at e1
        · split at e1
          · cases e1
          · cases e1; exact ⟨rfl, rfl⟩
        · cases e1; exact ⟨rfl, rfl⟩
      rw [this.1, this.2]
      exact ⟨hz, hz, fun h => (by cases h)⟩
    · refine ⟨?_, ?_, fun _ => run_near hk e1.symm⟩
      all_goals
        unfold runP at e1
        split at e1
        · split at e1
          · rename_i x0 l0 hr
            cases e1
            obtain ⟨xn, ln, rfl, rfl, hx, hl⟩ := runK_ok hk p _ _ _ hr
            have := hk.s2
            exact wfI_small (by omega) (by omega)
          · cases e1
        · cases e1
theorem gate_true {m : Wk} {k l : Int} {b : Bool} (h : pGateOpen m k l = (b, true)) : WkOk m ∧ ∃ kn ln : Nat, k = kn ∧ l = ln ∧ kn < m.gates.length ∧ ln < 64 ∧ b = openB m.gates[kn]! ln := by
  unfold pGateOpen at h
  split at h
  case isFalse => cases h
  case isTrue hc =>
    simp only [Bool.and_eq_true, inB_true, setB_true] at hc
    obtain ⟨⟨hw, k0, k1⟩, l0, l1⟩ := hc
    cases h
    refine ⟨worksB_true.1 hw, k.toNat, l.toNat, by omega, by omega, by omega, by omega, ?_⟩
    rw [Int.toNat_of_nonneg l0]
theorem turn_true {m R : Wk} {l : Int} (h : pTurnLevers m l = (R, true)) : R.size = m.size ∧ wfI l ∧ 0 ≤ m.size ∧ m.size ≤ 12 := by
  unfold pTurnLevers at h
  split at h
  case isFalse => cases h
  case isTrue hc =>
    cases h
    rw [Bool.and_eq_true, worksB_true, setB_true] at hc
    have h1 := hc.1.s1
    have h2 := hc.1.s2
    exact ⟨rfl, wfI_small (by omega) (by omega), by omega, by omega⟩
end Go.KD
namespace Go.Proofs.Ytmilpahggceemaa
open Go.RowKit Go.KD
attribute [local go_sem] later_cell later_frozen
set_option maxRecDepth 100000 in
set_option maxHeartbeats 16000000 in
theorem lawFnPlans_c (a : Option Addr) (cap n : Nat) (w : World) (hb0 : BC w a n) (hn : n ≤ maxLen) : Calls Try.prog 4 #[.slice a n cap] w fun e w' => e = .returned (.bool true) ∧ Below w.heap.size w w' := by
  have HBC := Lib.hid hb0
  clear hb0
  by_cases hbig : 65536 < n
  · have hd : decide (65536 < n) = true := decide_eq_true hbig
    go_enter Try.func4, Try.ntmps4
    go_wp2_with fail
    refine (rBig_c a n cap _ hn).mono ?_
    rintro e w1 ⟨rfl, rfl⟩
    go_wp2_with fail
    go_ret
    exact ⟨rfl, Below.refl _ _⟩
  · have hd : decide (65536 < n) = false := decide_eq_false hbig
    have hn6 : n ≤ 65536 := by omega
    go_enter Try.func4, Try.ntmps4
    go_wp2_with fail
    refine (rBig_c a n cap _ hn).mono ?_
    rintro e w0 ⟨rfl, rfl⟩
    clear hbig
    have HB : Hid (Below w.heap.size w w) := Below.refl _ _
    go_wp2_with fail
    refine (drawRunPlan_c a n cap _ HBC.out hn6).mono ?_
    rintro e w1 ⟨v, mA, ap, cp, LA, rfl, ⟨hstA, hsA, hgA, hpA, hb1⟩, hiA, hlA, hfA⟩
    clear hd
    have HIA := Lib.hid (hiA _ (Chg.refl _ _ _))
    have HFA := Lib.hid hfA
    obtain ⟨⟨adA, cdA, akA, ckA, rfl, -, -⟩, -, -⟩ := hstA _ (Chg.refl _ _ _)
    have HAT := Lib.hid (hstA _ (Chg.refl _ _ _))
    clear hstA hiA hfA
    replace HB := Lib.hid (below_then HB.out hb1)
    replace HBC := Lib.hid (HBC.out.later hb1)
    clear hb1
    have HSAN : Hid (WS (w1.alloc (.cells #[.int .i64 mA.size, .slice adA mA.gates.length cdA, .slice akA mA.pulls.length ckA] 36)) w1.heap.size (.slice adA mA.gates.length cdA) (.slice akA mA.pulls.length ckA) mA) := WS.new _ HAT.out
    replace HB := Lib.hid (below_then HB.out (belowA _ (.cells #[.int .i64 mA.size, .slice adA mA.gates.length cdA, .slice akA mA.pulls.length ckA] 36)))
    replace HBC := Lib.hid (HBC.out.later (belowA _ (.cells #[.int .i64 mA.size, .slice adA mA.gates.length cdA, .slice akA mA.pulls.length ckA] 36)))
    replace HIA := Lib.hid (HIA.out.later (belowA _ (.cells #[.int .i64 mA.size, .slice adA mA.gates.length cdA, .slice akA mA.pulls.length ckA] 36)))
    have HSA := Lib.hid HSAN.out
    clear HSAN
    clear HAT
    obtain ⟨xA, lA, okA, hpr⟩ : ∃ x l ok, pRunPlan mA LA = (x, l, ok) := ⟨_, _, _, rfl⟩
    obtain ⟨isA, oneA, hpi⟩ : ∃ is one, pIsPlan mA LA = (is, one) := ⟨_, _, rfl⟩
    have HPR := Lib.hid hpr
    have HPI := Lib.hid hpi
    have HOK := Lib.hid (plan_ok hpr hpi)
    obtain ⟨hwx, hwl, hnear⟩ := plan_wf hpr
    have HWX := Lib.hid hwx
    have HWL := Lib.hid hwl
    have HNE := Lib.hid hnear
    clear hpr hpi hwx hwl hnear
    have c0_HSA := HSA.out.c0
    have c1_HSA := HSA.out.c1
    have c2_HSA := HSA.out.c2
    have lt_HSA := HSA.out.lt
    go_wp2_with fail
    clear c0_HSA c1_HSA c2_HSA lt_HSA
    refine (implRunPlan_c _ mA _ _ LA _ HSA.out.at' HIA.out (by omega) HFA.out).mono ?_
    rw [HPR.out]
    rintro e w2 ⟨rfl, hb2⟩
    replace HB := Lib.hid (below_then HB.out hb2)
    replace HBC := Lib.hid (HBC.out.later hb2)
    replace HIA := Lib.hid (HIA.out.later hb2)
    replace HSA := Lib.hid (HSA.out.later hb2)
    clear hb2
    dsimp only
    have c0_HSA := HSA.out.c0
    have c1_HSA := HSA.out.c1
    have c2_HSA := HSA.out.c2
    have lt_HSA := HSA.out.lt
    go_wp2_with fail
    clear c0_HSA c1_HSA c2_HSA lt_HSA
    refine (specRunPlan_c _ mA _ _ LA _ HSA.out.at' HIA.out (by omega) HFA.out).mono ?_
    rw [HPR.out]
    rintro e w3 ⟨rfl, hb3⟩
    replace HB := Lib.hid (below_then HB.out hb3)
    replace HBC := Lib.hid (HBC.out.later hb3)
    replace HIA := Lib.hid (HIA.out.later hb3)
    replace HSA := Lib.hid (HSA.out.later hb3)
    clear hb3
    dsimp only
    have c0_HSA := HSA.out.c0
    have c1_HSA := HSA.out.c1
    have c2_HSA := HSA.out.c2
    have lt_HSA := HSA.out.lt
    go_wp2_with fail
    clear c0_HSA c1_HSA c2_HSA lt_HSA
    refine (implIsPlan_c _ mA _ _ LA _ HSA.out.at' HIA.out (by omega) HFA.out).mono ?_
    rw [HPI.out]
    rintro e w4 ⟨rfl, hb4⟩
    replace HB := Lib.hid (below_then HB.out hb4)
    replace HBC := Lib.hid (HBC.out.later hb4)
    replace HIA := Lib.hid (HIA.out.later hb4)
    replace HSA := Lib.hid (HSA.out.later hb4)
    clear hb4
    dsimp only
    have c0_HSA := HSA.out.c0
    have c1_HSA := HSA.out.c1
    have c2_HSA := HSA.out.c2
    have lt_HSA := HSA.out.lt
    go_wp2_with fail
    clear c0_HSA c1_HSA c2_HSA lt_HSA
    refine (specIsPlan_c _ mA _ _ LA _ HSA.out.at' HIA.out (by omega) HFA.out).mono ?_
    rw [HPI.out]
    rintro e w5 ⟨rfl, hb5⟩
    replace HB := Lib.hid (below_then HB.out hb5)
    replace HBC := Lib.hid (HBC.out.later hb5)
    replace HIA := Lib.hid (HIA.out.later hb5)
    replace HSA := Lib.hid (HSA.out.later hb5)
    clear hb5
    dsimp only
    clear HIA
    go_upto_region 10 with fail
    go_cut [109] (fun s wx => s = .bool false ∧ Hid (Below w5.heap.size w5 wx))
    case first =>
      as_aux_lemma =>
        have hk := HOK.out
        cases oneA
        all_goals cases isA
        all_goals
          simp only [Bool.and_true, Bool.and_false, Bool.false_and, Bool.true_and] at hk
          subst hk
          go_wp2_with fail
          go_meet
          case rel => exact ⟨rfl, Below.refl _ _⟩
    case rest =>
      as_aux_lemma =>
        obtain ⟨w6, rfl⟩ : ∃ w6 : World, w6 = wc := ⟨_, rfl⟩
        obtain ⟨rfl, hc6⟩ := hcut
        have hb6 := hc6.out
        clear hc6
        replace HB := Lib.hid (below_then HB.out hb6)
        replace HBC := Lib.hid (HBC.out.later hb6)
        replace HSA := Lib.hid (HSA.out.later hb6)
        clear hb6
        go_wp2_with fail
        refine (drawGateOpen_c a n cap _ HBC.out hn6).mono ?_
        rintro e w7 ⟨v, mB, kB, sB, rfl, ⟨hstB, hsB, hgB, hpB, hb7⟩, hkB, hxB⟩
        have HKB := Lib.hid hkB
        have HXB := Lib.hid hxB
        obtain ⟨⟨adB, cdB, akB, ckB, rfl, -, -⟩, -, -⟩ := hstB _ (Chg.refl _ _ _)
        have HAT := Lib.hid (hstB _ (Chg.refl _ _ _))
        clear hstB hkB hxB
        replace HB := Lib.hid (below_then HB.out hb7)
        replace HBC := Lib.hid (HBC.out.later hb7)
        replace HSA := Lib.hid (HSA.out.later hb7)
        clear hb7
        have HSBN : Hid (WS (w7.alloc (.cells #[.int .i64 mB.size, .slice adB mB.gates.length cdB, .slice akB mB.pulls.length ckB] 36)) w7.heap.size (.slice adB mB.gates.length cdB) (.slice akB mB.pulls.length ckB) mB) := WS.new _ HAT.out
        replace HB := Lib.hid (below_then HB.out (belowA _ (.cells #[.int .i64 mB.size, .slice adB mB.gates.length cdB, .slice akB mB.pulls.length ckB] 36)))
        replace HBC := Lib.hid (HBC.out.later (belowA _ (.cells #[.int .i64 mB.size, .slice adB mB.gates.length cdB, .slice akB mB.pulls.length ckB] 36)))
        replace HSA := Lib.hid (HSA.out.later (belowA _ (.cells #[.int .i64 mB.size, .slice adB mB.gates.length cdB, .slice akB mB.pulls.length ckB] 36)))
        have HSB := Lib.hid HSBN.out
        clear HSBN
        clear HAT
        obtain ⟨opB, twoB, hpg⟩ : ∃ op two, pGateOpen mB kB sB = (op, two) := ⟨_, _, rfl⟩
        have HPG := Lib.hid hpg
        clear hpg
        have c0_HSB := HSB.out.c0
        have c1_HSB := HSB.out.c1
        have c2_HSB := HSB.out.c2
        have lt_HSB := HSB.out.lt
        go_wp2_with fail
        clear c0_HSB c1_HSB c2_HSB lt_HSB
        refine (implGateOpen_c _ mB kB sB _ HSB.out.at' HKB.out HXB.out).mono ?_
        rw [HPG.out]
        rintro e w8 ⟨rfl, hb8⟩
        replace HB := Lib.hid (below_then HB.out hb8)
        replace HBC := Lib.hid (HBC.out.later hb8)
        replace HSA := Lib.hid (HSA.out.later hb8)
        replace HSB := Lib.hid (HSB.out.later hb8)
        clear hb8
        dsimp only
        have c0_HSB := HSB.out.c0
        have c1_HSB := HSB.out.c1
        have c2_HSB := HSB.out.c2
        have lt_HSB := HSB.out.lt
        go_wp2_with fail
        clear c0_HSB c1_HSB c2_HSB lt_HSB
        refine (specGateOpen_c _ mB kB sB _ HSB.out.at' HKB.out HXB.out).mono ?_
        rw [HPG.out]
        rintro e w9 ⟨rfl, hb9⟩
        replace HB := Lib.hid (below_then HB.out hb9)
        replace HBC := Lib.hid (HBC.out.later hb9)
        replace HSA := Lib.hid (HSA.out.later hb9)
        replace HSB := Lib.hid (HSB.out.later hb9)
        clear hb9
        dsimp only
        go_wp2_with fail
        refine (drawTurnLevers_c a n cap _ HBC.out hn6).mono ?_
        rintro e w10 ⟨v, mC, lC, rfl, ⟨hstC, hsC, hgC, hpC, hb10⟩, hlC⟩
        have HLC := Lib.hid hlC
        obtain ⟨⟨adC, cdC, akC, ckC, rfl, -, -⟩, -, -⟩ := hstC _ (Chg.refl _ _ _)
        have HAT := Lib.hid (hstC _ (Chg.refl _ _ _))
        clear hstC hlC
        replace HB := Lib.hid (below_then HB.out hb10)
        replace HBC := Lib.hid (HBC.out.later hb10)
        replace HSA := Lib.hid (HSA.out.later hb10)
        replace HSB := Lib.hid (HSB.out.later hb10)
        clear hb10
        have HSCN : Hid (WS (w10.alloc (.cells #[.int .i64 mC.size, .slice adC mC.gates.length cdC, .slice akC mC.pulls.length ckC] 36)) w10.heap.size (.slice adC mC.gates.length cdC) (.slice akC mC.pulls.length ckC) mC) := WS.new _ HAT.out
        replace HB := Lib.hid (below_then HB.out (belowA _ (.cells #[.int .i64 mC.size, .slice adC mC.gates.length cdC, .slice akC mC.pulls.length ckC] 36)))
        replace HBC := Lib.hid (HBC.out.later (belowA _ (.cells #[.int .i64 mC.size, .slice adC mC.gates.length cdC, .slice akC mC.pulls.length ckC] 36)))
        replace HSA := Lib.hid (HSA.out.later (belowA _ (.cells #[.int .i64 mC.size, .slice adC mC.gates.length cdC, .slice akC mC.pulls.length ckC] 36)))
        replace HSB := Lib.hid (HSB.out.later (belowA _ (.cells #[.int .i64 mC.size, .slice adC mC.gates.length cdC, .slice akC mC.pulls.length ckC] 36)))
        have HSC := Lib.hid HSCN.out
        clear HSCN
        clear HAT
        obtain ⟨R, threeC, hpt⟩ : ∃ R three, pTurnLevers mC lC = (R, three) := ⟨_, _, rfl⟩
        have hRl : R.gates.length ≤ 100000 ∧ R.pulls.length ≤ 100000 := by have := pTurnLevers_len mC lC; rw [hpt] at this; exact this
        have HPT := Lib.hid hpt
        clear hpt
        have c0_HSC := HSC.out.c0
        have c1_HSC := HSC.out.c1
        have c2_HSC := HSC.out.c2
        have lt_HSC := HSC.out.lt
        go_wp2_with fail
        clear c0_HSC c1_HSC c2_HSC lt_HSC
        refine (implTurnLevers_c _ mC lC _ R threeC HPT.out HSC.out.at' HLC.out).mono ?_
        rintro e w11 ⟨u, rfl, hou, hb11⟩
        have hRat := WkOwn.wk hou (by omega) (by omega)
        obtain ⟨⟨adR, cdR, akR, ckR, rfl, -, -⟩, -, -⟩ := id hRat
        have HAT := Lib.hid hRat
        clear hou hRat
        replace HB := Lib.hid (below_then HB.out hb11)
        replace HBC := Lib.hid (HBC.out.later hb11)
        replace HSA := Lib.hid (HSA.out.later hb11)
        replace HSB := Lib.hid (HSB.out.later hb11)
        replace HSC := Lib.hid (HSC.out.later hb11)
        clear hb11
        have HSRN : Hid (WS (w11.alloc (.cells #[.int .i64 R.size, .slice adR R.gates.length cdR, .slice akR R.pulls.length ckR] 36)) w11.heap.size (.slice adR R.gates.length cdR) (.slice akR R.pulls.length ckR) R) := WS.new _ HAT.out
        replace HB := Lib.hid (below_then HB.out (belowA _ (.cells #[.int .i64 R.size, .slice adR R.gates.length cdR, .slice akR R.pulls.length ckR] 36)))
        replace HBC := Lib.hid (HBC.out.later (belowA _ (.cells #[.int .i64 R.size, .slice adR R.gates.length cdR, .slice akR R.pulls.length ckR] 36)))
        replace HSA := Lib.hid (HSA.out.later (belowA _ (.cells #[.int .i64 R.size, .slice adR R.gates.length cdR, .slice akR R.pulls.length ckR] 36)))
        replace HSB := Lib.hid (HSB.out.later (belowA _ (.cells #[.int .i64 R.size, .slice adR R.gates.length cdR, .slice akR R.pulls.length ckR] 36)))
        replace HSC := Lib.hid (HSC.out.later (belowA _ (.cells #[.int .i64 R.size, .slice adR R.gates.length cdR, .slice akR R.pulls.length ckR] 36)))
        have HSR := Lib.hid HSRN.out
        clear HSRN
        clear HAT
        have c0_HSC := HSC.out.c0
        have c1_HSC := HSC.out.c1
        have c2_HSC := HSC.out.c2
        have lt_HSC := HSC.out.lt
        go_wp2_with fail
        clear c0_HSC c1_HSC c2_HSC lt_HSC
        refine (specTurnLevers_c _ mC lC _ R threeC HPT.out HSC.out.at' HLC.out).mono ?_
        rintro e w12 ⟨u, rfl, hRat, hb12⟩
        obtain ⟨⟨adQ, cdQ, akQ, ckQ, rfl, -, -⟩, -, -⟩ := id hRat
        have HAT := Lib.hid hRat
        clear hRat
        replace HB := Lib.hid (below_then HB.out hb12)
        replace HBC := Lib.hid (HBC.out.later hb12)
        replace HSA := Lib.hid (HSA.out.later hb12)
        replace HSB := Lib.hid (HSB.out.later hb12)
        replace HSC := Lib.hid (HSC.out.later hb12)
        replace HSR := Lib.hid (HSR.out.later hb12)
        clear hb12
        have HSQN : Hid (WS (w12.alloc (.cells #[.int .i64 R.size, .slice adQ R.gates.length cdQ, .slice akQ R.pulls.length ckQ] 36)) w12.heap.size (.slice adQ R.gates.length cdQ) (.slice akQ R.pulls.length ckQ) R) := WS.new _ HAT.out
        replace HB := Lib.hid (below_then HB.out (belowA _ (.cells #[.int .i64 R.size, .slice adQ R.gates.length cdQ, .slice akQ R.pulls.length ckQ] 36)))
        replace HBC := Lib.hid (HBC.out.later (belowA _ (.cells #[.int .i64 R.size, .slice adQ R.gates.length cdQ, .slice akQ R.pulls.length ckQ] 36)))
        replace HSA := Lib.hid (HSA.out.later (belowA _ (.cells #[.int .i64 R.size, .slice adQ R.gates.length cdQ, .slice akQ R.pulls.length ckQ] 36)))
        replace HSB := Lib.hid (HSB.out.later (belowA _ (.cells #[.int .i64 R.size, .slice adQ R.gates.length cdQ, .slice akQ R.pulls.length ckQ] 36)))
        replace HSC := Lib.hid (HSC.out.later (belowA _ (.cells #[.int .i64 R.size, .slice adQ R.gates.length cdQ, .slice akQ R.pulls.length ckQ] 36)))
        replace HSR := Lib.hid (HSR.out.later (belowA _ (.cells #[.int .i64 R.size, .slice adQ R.gates.length cdQ, .slice akQ R.pulls.length ckQ] 36)))
        have HSQ := Lib.hid HSQN.out
        clear HSQN
        clear HAT
        have c0_HSR := HSR.out.c0
        have c1_HSR := HSR.out.c1
        have c2_HSR := HSR.out.c2
        have lt_HSR := HSR.out.lt
        have c0_HSQ := HSQ.out.c0
        have c1_HSQ := HSQ.out.c1
        have c2_HSQ := HSQ.out.c2
        have lt_HSQ := HSQ.out.lt
        go_wp2_with fail
        clear c0_HSR c1_HSR c2_HSR lt_HSR
        clear c0_HSQ c1_HSQ c2_HSQ lt_HSQ
        refine (rWorks_c _ _ R _ HSR.out.at' HSQ.out.at').mono ?_
        rintro e w13 ⟨rfl, hb13⟩
        replace HB := Lib.hid (below_then HB.out hb13)
        replace HBC := Lib.hid (HBC.out.later hb13)
        replace HSA := Lib.hid (HSA.out.later hb13)
        replace HSB := Lib.hid (HSB.out.later hb13)
        replace HSC := Lib.hid (HSC.out.later hb13)
        replace HSR := Lib.hid (HSR.out.later hb13)
        replace HSQ := Lib.hid (HSQ.out.later hb13)
        clear hb13
        clear HSQ
        go_wp2_with fail
        refine (drawAreApart_c a n cap _ HBC.out hn6).mono ?_
        rintro e w14 ⟨v, mD, pD, qD, rD, sD, rfl, ⟨hstD, hsD, hgD, hpD, hb14⟩, hw1, hw2, hw3, hw4⟩
        have HD1 := Lib.hid hw1
        have HD2 := Lib.hid hw2
        have HD3 := Lib.hid hw3
        have HD4 := Lib.hid hw4
        obtain ⟨⟨adD, cdD, akD, ckD, rfl, -, -⟩, -, -⟩ := hstD _ (Chg.refl _ _ _)
        have HAT := Lib.hid (hstD _ (Chg.refl _ _ _))
        clear hstD hw1 hw2 hw3 hw4
        replace HB := Lib.hid (below_then HB.out hb14)
        replace HBC := Lib.hid (HBC.out.later hb14)
        replace HSA := Lib.hid (HSA.out.later hb14)
        replace HSB := Lib.hid (HSB.out.later hb14)
        replace HSC := Lib.hid (HSC.out.later hb14)
        replace HSR := Lib.hid (HSR.out.later hb14)
        clear hb14
        clear HBC
        have HSDN : Hid (WS (w14.alloc (.cells #[.int .i64 mD.size, .slice adD mD.gates.length cdD, .slice akD mD.pulls.length ckD] 36)) w14.heap.size (.slice adD mD.gates.length cdD) (.slice akD mD.pulls.length ckD) mD) := WS.new _ HAT.out
        replace HB := Lib.hid (below_then HB.out (belowA _ (.cells #[.int .i64 mD.size, .slice adD mD.gates.length cdD, .slice akD mD.pulls.length ckD] 36)))
        replace HSA := Lib.hid (HSA.out.later (belowA _ (.cells #[.int .i64 mD.size, .slice adD mD.gates.length cdD, .slice akD mD.pulls.length ckD] 36)))
        replace HSB := Lib.hid (HSB.out.later (belowA _ (.cells #[.int .i64 mD.size, .slice adD mD.gates.length cdD, .slice akD mD.pulls.length ckD] 36)))
        replace HSC := Lib.hid (HSC.out.later (belowA _ (.cells #[.int .i64 mD.size, .slice adD mD.gates.length cdD, .slice akD mD.pulls.length ckD] 36)))
        replace HSR := Lib.hid (HSR.out.later (belowA _ (.cells #[.int .i64 mD.size, .slice adD mD.gates.length cdD, .slice akD mD.pulls.length ckD] 36)))
        have HSD := Lib.hid HSDN.out
        clear HSDN
        clear HAT
        obtain ⟨apD, fourD, hpa⟩ : ∃ ap four, pAreApart mD pD qD rD sD = (ap, four) := ⟨_, _, rfl⟩
        have HPA := Lib.hid hpa
        clear hpa
        have c0_HSD := HSD.out.c0
        have c1_HSD := HSD.out.c1
        have c2_HSD := HSD.out.c2
        have lt_HSD := HSD.out.lt
        go_wp2_with fail
        clear c0_HSD c1_HSD c2_HSD lt_HSD
        refine (implAreApart_c _ mD pD qD rD sD _ HSD.out.at' HD1.out HD2.out HD3.out HD4.out).mono ?_
        rw [HPA.out]
        rintro e w15 ⟨rfl, hb15⟩
        replace HB := Lib.hid (below_then HB.out hb15)
        replace HSA := Lib.hid (HSA.out.later hb15)
        replace HSB := Lib.hid (HSB.out.later hb15)
        replace HSC := Lib.hid (HSC.out.later hb15)
        replace HSR := Lib.hid (HSR.out.later hb15)
        replace HSD := Lib.hid (HSD.out.later hb15)
        clear hb15
        dsimp only
        have c0_HSD := HSD.out.c0
        have c1_HSD := HSD.out.c1
        have c2_HSD := HSD.out.c2
        have lt_HSD := HSD.out.lt
        go_wp2_with fail
        clear c0_HSD c1_HSD c2_HSD lt_HSD
        refine (specAreApart_c _ mD pD qD rD sD _ HSD.out.at' HD1.out HD2.out HD3.out HD4.out).mono ?_
        rw [HPA.out]
        rintro e w16 ⟨rfl, hb16⟩
        replace HB := Lib.hid (below_then HB.out hb16)
        replace HSA := Lib.hid (HSA.out.later hb16)
        replace HSB := Lib.hid (HSB.out.later hb16)
        replace HSC := Lib.hid (HSC.out.later hb16)
        replace HSR := Lib.hid (HSR.out.later hb16)
        replace HSD := Lib.hid (HSD.out.later hb16)
        clear hb16
        dsimp only
        go_upto_region 27 with fail
        go_cut [219] (fun s wx => s = .bool false ∧ Hid (Below w16.heap.size w16 wx))
        case first =>
          as_aux_lemma =>
            cases twoB
            · go_quiet (fail)
              go_wp2_with fail
              go_meet
              case rel => exact ⟨rfl, below_drewN (Below.refl _ _) _⟩
            · obtain ⟨hokB, kn, ln, rfl, rfl, hkn, hln, hop⟩ := gate_true HPG.out
              have hdB : D4C w16 adB mB.gates := by
                obtain ⟨⟨ad', cd', ak', ck', he, h1, h2⟩, -, -⟩ := HSB.out.at'
                cases he
                exact h1
              obtain ⟨b, off, x, y, z, u, rfl, HX, hbs, e0, e1, e2, e3⟩ := hdB.at kn hkn
              have hgf := gate_facts hokB hkn HX.out
              obtain ⟨zn, rfl⟩ := Int.eq_ofNat_of_zero_le hgf.2.2.2.1
              have hz64 : zn < 64 := by omega
              obtain ⟨pn, hpn⟩ : ∃ pn, pn = zn &&& ln := ⟨_, rfl⟩
              have hp64 : pn < 64 := by rw [hpn]; exact and_lt64 ln hz64
              have hand : bits .and .i64 (zn : Int) (ln : Int) = (pn : Int) := by rw [hpn]; exact (bits_nat .i64 40 (by decide) wraps_i64 zn ln (by omega) (by omega)).1
              obtain ⟨Pp, hPp⟩ : ∃ Pp : Nat, (Pp : Int) = popc pn := ⟨popN pn, rfl⟩
              have hr := fun w => rMany_c pn hp64 w
              rw [← hPp] at hr
              have hob : opB = decide (((Pp : Int) % 2) = u) := by
                rw [hop]
                unfold openB
                rw [HX.out, hPp, hpn]
                simp
              have hPb : Pp ≤ 12 := by have := popc_le pn; omega
              have ht1 : (((Pp : Int) % 2) == u) = opB := by rw [hob, Bool.eq_iff_iff]; simp
              have ht2 : (Int.tmod (Pp : Int) 2 == u) = opB := by rw [Int.tmod_eq_emod_of_nonneg (by omega)]; exact ht1
              have hknI : (kn : Int) < (mB.gates.length : Int) := by omega
              have hkn0 : (0 : Int) ≤ (kn : Int) := by omega
              clear hob hop hPp hpn hgf hdB
              have c0_HSB := HSB.out.c0
              have c1_HSB := HSB.out.c1
              have c2_HSB := HSB.out.c2
              have lt_HSB := HSB.out.lt
              refine wp_region_later (w16.heap.size) (by kernel_rfl) (by kernel_rfl) ?_
              repeat (first | go_big_quiet_skip | (go_big_quiet_want; go_big_quiet_op; (first | go_big_quiet_on | (apply Exists.intro; refine ⟨fun W => ?_, ?_⟩; (first | (go_at_call 38; exact Calls.later_same (hr _))); go_big_quiet_on))))
              refine wpQuiet_nil ?_
              rintro w9 ⟨⟨w9', hb9⟩, h9⟩
              change w9 = w9' at h9
              subst h9
              go_wp2_with fail
              go_meet
              case rel => exact ⟨rfl, hb9⟩
        case rest =>
          as_aux_lemma =>
            obtain ⟨w17, rfl⟩ : ∃ w17 : World, w17 = wc := ⟨_, rfl⟩
            obtain ⟨rfl, hc17⟩ := hcut
            have hb17 := hc17.out
            clear hc17
            replace HB := Lib.hid (below_then HB.out hb17)
            replace HSA := Lib.hid (HSA.out.later hb17)
            replace HSB := Lib.hid (HSB.out.later hb17)
            replace HSC := Lib.hid (HSC.out.later hb17)
            replace HSR := Lib.hid (HSR.out.later hb17)
            replace HSD := Lib.hid (HSD.out.later hb17)
            clear hb17
            go_upto_if 220 with fail
            go_cut [] (fun wx => Hid (Below w17.heap.size w17 wx))
            case first =>
              as_aux_lemma =>
                cases threeC
                · go_wp2_with fail
                  go_meet
                  case rel => exact Below.refl _ _
                · have htt := turn_turn HPT.out
                  have HTT := Lib.hid htt
                  obtain ⟨-, -, hs0C, hs12C⟩ := turn_true HPT.out
                  obtain ⟨sn, hsn⟩ := Int.eq_ofNat_of_zero_le hs0C
                  have HSN := Lib.hid hsn
                  have hsn12 : sn ≤ 12 := by omega
                  have HZW : Hid (Below w17.heap.size w17 w17) := Below.refl _ _
                  clear htt hsn hs0C hs12C
                  clear HB
                  have c0_HSR := HSR.out.c0
                  have c1_HSR := HSR.out.c1
                  have c2_HSR := HSR.out.c2
                  have lt_HSR := HSR.out.lt
                  go_wp2_with fail
                  clear c0_HSR c1_HSR c2_HSR lt_HSR
                  refine (implTurnLevers_c _ R lC _ mC true HTT.out HSR.out.at' HLC.out).mono ?_
                  rintro e w18 ⟨u, rfl, hou, hb18⟩
                  have hRat := WkOwn.wk hou (by omega) (by omega)
                  obtain ⟨⟨adU, cdU, akU, ckU, rfl, -, -⟩, -, -⟩ := id hRat
                  have HAT := Lib.hid hRat
                  clear hou hRat
                  replace HSR := Lib.hid (HSR.out.later hb18)
                  replace HSC := Lib.hid (HSC.out.later hb18)
                  replace HZW := Lib.hid (below_then HZW.out hb18)
                  clear hb18
                  have HB := Lib.hid HZW.out
                  clear HZW
                  have HSUN : Hid (WS (w18.alloc (.cells #[.int .i64 mC.size, .slice adU mC.gates.length cdU, .slice akU mC.pulls.length ckU] 36)) w18.heap.size (.slice adU mC.gates.length cdU) (.slice akU mC.pulls.length ckU) mC) := WS.new _ HAT.out
                  replace HSR := Lib.hid (HSR.out.later (belowA _ (.cells #[.int .i64 mC.size, .slice adU mC.gates.length cdU, .slice akU mC.pulls.length ckU] 36)))
                  replace HSC := Lib.hid (HSC.out.later (belowA _ (.cells #[.int .i64 mC.size, .slice adU mC.gates.length cdU, .slice akU mC.pulls.length ckU] 36)))
                  replace HB := Lib.hid (below_then HB.out (belowA _ (.cells #[.int .i64 mC.size, .slice adU mC.gates.length cdU, .slice akU mC.pulls.length ckU] 36)))
                  have HSU := Lib.hid HSUN.out
                  clear HSUN
                  clear HAT
                  have c0_HSU := HSU.out.c0
                  have c1_HSU := HSU.out.c1
                  have c2_HSU := HSU.out.c2
                  have lt_HSU := HSU.out.lt
                  have c0_HSC := HSC.out.c0
                  have c1_HSC := HSC.out.c1
                  have c2_HSC := HSC.out.c2
                  have lt_HSC := HSC.out.lt
                  go_wp2_with fail
                  clear c0_HSU c1_HSU c2_HSU lt_HSU
                  clear c0_HSC c1_HSC c2_HSC lt_HSC
                  refine (rWorks_c _ _ mC _ HSU.out.at' HSC.out.at').mono ?_
                  rintro e w19 ⟨rfl, hb19⟩
                  replace HSR := Lib.hid (HSR.out.later hb19)
                  replace HSC := Lib.hid (HSC.out.later hb19)
                  replace HB := Lib.hid (below_then HB.out hb19)
                  replace HSU := Lib.hid (HSU.out.later hb19)
                  clear hb19 HSU
                  have c0_HSC := HSC.out.c0
                  have c1_HSC := HSC.out.c1
                  have c2_HSC := HSC.out.c2
                  have lt_HSC := HSC.out.lt
                  go_wp2_with fail
                  go_loopw [39] (fun v wr => ∃ k : Nat, v = .int .i64 k ∧ k ≤ sn ∧ Hid (Below w19.heap.size w19 wr)) (fun v _ => sn - (intOf v).toNat)
                  case atStart => exact ⟨0, rfl, Nat.zero_le _, Below.refl _ _⟩
                  case round =>
                    clear c0_HSC c1_HSC c2_HSC lt_HSC
                    obtain ⟨wi, rfl⟩ : ∃ wi : World, wi = wr := ⟨_, rfl⟩
                    obtain ⟨k, rfl, hk, HBi⟩ := hrel
                    have HSCi := Lib.hid (HSC.out.later HBi.out)
                    have HSRi := Lib.hid (HSR.out.later HBi.out)
                    by_cases hlt : (k : Int) < mC.size
                    · have hlt2 : k < sn := by have := HSN.out; omega
                      obtain ⟨A, hA1, hA2⟩ := acts_turned HPT.out hlt
                      have hAl : A.length ≤ 1000000 := by have := pActsAt_len mC k lC; rw [hA1] at this; exact this
                      have HA1 := Lib.hid hA1
                      have HA2 := Lib.hid hA2
                      have hwk : wfI (k : Int) := wfI_small (by omega) (by omega)
                      have HWK := Lib.hid hwk
                      clear hA1 hA2 hwk
                      have c0_HSC := HSCi.out.c0
                      have c1_HSC := HSCi.out.c1
                      have c2_HSC := HSCi.out.c2
                      have lt_HSC := HSCi.out.lt
                      go_wp2_with fail
                      clear c0_HSC c1_HSC c2_HSC lt_HSC
                      refine (implActsAt_c _ mC k lC _ A true HA1.out HSCi.out.at' HWK.out HLC.out).mono ?_
                      rintro e wa ⟨u1, rfl, ho1, hba⟩
                      obtain ⟨a1, c1, rfl⟩ := own_slice ho1
                      have HI1 : Hid (IC wa a1 A) := ic_of' (Own.of ho1) rfl
                      replace HSRi := Lib.hid (HSRi.out.later hba)
                      replace HBi := Lib.hid (below_then HBi.out hba)
                      clear ho1 hba
                      have c0_HSR := HSRi.out.c0
                      have c1_HSR := HSRi.out.c1
                      have c2_HSR := HSRi.out.c2
                      have lt_HSR := HSRi.out.lt
                      go_wp2_with fail
                      clear c0_HSR c1_HSR c2_HSR lt_HSR
                      refine (implActsAt_c _ R k 0 _ A true HA2.out HSRi.out.at' HWK.out (wfI_small (by decide) (by decide))).mono ?_
                      rintro e wb ⟨u2, rfl, ho2, hbb⟩
                      obtain ⟨a2, c2, rfl⟩ := own_slice ho2
                      have HI2 : Hid (IC wb a2 A) := ic_of' (Own.of ho2) rfl
                      replace HI1 := Lib.hid (HI1.out.later hbb)
                      replace HBi := Lib.hid (below_then HBi.out hbb)
                      clear ho2 hbb
                      go_wp2_with fail
                      refine (rInts_c _ _ _ _ A A _ HI1.out HI2.out (by omega) (by omega)).mono ?_
                      rintro e wd ⟨rfl, hbd⟩
                      replace HBi := Lib.hid (below_then HBi.out hbd)
                      clear hbd
                      go_wp2_with fail
                      go_roundw
                      case rel => exact ⟨k + 1, by go_num, by omega, HBi⟩
                      case measure => simp [intOf]; omega
                    · have c0_HSC := HSCi.out.c0
                      have lt_HSC := HSCi.out.lt
                      go_wp2_with fail
                      clear c0_HSC lt_HSC
                      go_meet
                      case rel => exact below_then HB.out HBi.out
            case rest =>
              as_aux_lemma =>
                obtain ⟨w20, rfl⟩ : ∃ w20 : World, w20 = wc := ⟨_, rfl⟩
                have hb20 := hcut.out
                clear hcut
                replace HB := Lib.hid (below_then HB.out hb20)
                replace HSA := Lib.hid (HSA.out.later hb20)
                replace HSB := Lib.hid (HSB.out.later hb20)
                replace HSC := Lib.hid (HSC.out.later hb20)
                replace HSR := Lib.hid (HSR.out.later hb20)
                replace HSD := Lib.hid (HSD.out.later hb20)
                clear hb20
                go_upto_if 266 with fail
                go_cut [] (fun wx => Hid (Below w20.heap.size w20 wx))
                case first =>
                  as_aux_lemma =>
                    cases fourD
                    · go_wp2_with fail
                      go_meet
                      case rel => exact Below.refl _ _
                    · have hsy : pAreApart mD rD sD pD qD = (apD, true) := by rw [← HPA.out]; exact apart_sym.symm
                      have HSY := Lib.hid hsy
                      clear hsy
                      have c0_HSD := HSD.out.c0
                      have c1_HSD := HSD.out.c1
                      have c2_HSD := HSD.out.c2
                      have lt_HSD := HSD.out.lt
                      go_wp2_with fail
                      clear c0_HSD c1_HSD c2_HSD lt_HSD
                      refine (implAreApart_c _ mD rD sD pD qD _ HSD.out.at' HD3.out HD4.out HD1.out HD2.out).mono ?_
                      rw [HSY.out]
                      rintro e wy ⟨rfl, hby⟩
                      have HBY := Lib.hid hby
                      clear hby
                      dsimp only
                      go_wp2_with fail
                      go_meet
                      case rel => exact HBY
                case rest =>
                  as_aux_lemma =>
                    obtain ⟨w21, rfl⟩ : ∃ w21 : World, w21 = wc := ⟨_, rfl⟩
                    have hb21 := hcut.out
                    clear hcut
                    replace HB := Lib.hid (below_then HB.out hb21)
                    replace HSA := Lib.hid (HSA.out.later hb21)
                    replace HSB := Lib.hid (HSB.out.later hb21)
                    replace HSC := Lib.hid (HSC.out.later hb21)
                    replace HSR := Lib.hid (HSR.out.later hb21)
                    replace HSD := Lib.hid (HSD.out.later hb21)
                    clear hb21
                    cases okA
                    · go_wp2_with fail
                      go_ret
                      exact ⟨rfl, HB.out⟩
                    · have hfa := HNE.out rfl
                      have HFA2 := Lib.hid hfa
                      clear hfa
                      have c0_HSA := HSA.out.c0
                      have c1_HSA := HSA.out.c1
                      have c2_HSA := HSA.out.c2
                      have lt_HSA := HSA.out.lt
                      go_wp2_with fail
                      clear c0_HSA c1_HSA c2_HSA lt_HSA
                      refine (implAreApart_c _ mA 0 0 xA lA _ HSA.out.at' (wfI_small (by decide) (by decide)) (wfI_small (by decide) (by decide)) HWX.out HWL.out).mono ?_
                      rw [HFA2.out]
                      rintro e wy ⟨rfl, hby⟩
                      replace HB := Lib.hid (below_then HB.out hby)
                      clear hby
                      dsimp only
                      go_wp2_with fail
                      go_ret
                      exact ⟨rfl, HB.out⟩
end Go.Proofs.Ytmilpahggceemaa
