/- The law FnSafe, walked. Printed by dev/mk_lawsafe.py. 'laws.FnSafe' returns true for every input, and its inputs read afterwards as before. No condition. -/
import Derived.Test.YtcjcgcgcloanpaaKps7
import Derived.Test.YtcjcgcgcloanpaaKps8
import Derived.Test.YtcjcgcgcloanpaaKps12
import Derived.Test.YtcjcgcgcloanpaaKps10
import Derived.Test.YtcjcgcgcloanpaaKps11
import Derived.Deep.DeepCutAuto
import Derived.Test.YtcjcgcgcloanpaaRows
set_option linter.unusedVariables false
set_option linter.unusedSimpArgs false
namespace Go.KD
open Go.RowKit
theorem ic_takeH {w : World} {a : Option Addr} {l : List Int} (h : IC w a l) (k : Nat) : IC w a (l.take k) := by
  intro j hj
  rw [List.length_take] at hj
  obtain ⟨b, off, e, h1, h2⟩ := h j (by omega)
  refine ⟨b, off, e, h1, ?_⟩
  rw [getElem!_pos (l.take k) j (by rw [List.length_take]; omega), List.getElem_take]
  rw [getElem!_pos l j (by omega)] at h2
  exact h2
end Go.KD
namespace Go.Proofs.Ytcjcgcgcloanpaa
open Go.RowKit Go.KD
theorem implHopefulLocksN_c (v : Value) (m : Mz) (aL : Option Addr) (cL n : Nat) (L : List Int) (w : World) (R : List Int) (b : Bool) (hn : n = L.length) (hp : pHopefulLocks m L = (R, b)) (hm : MzAt w v m) (hL : IC w aL L) (hLl : L.length ≤ 1048576) (wl : ∀ y ∈ L, wfI y) : Calls Try.prog 19 #[v, .slice aL n cL] w fun e w' => ∃ u, e = .returned (.tuple #[u, .bool b]) ∧ w'.ownsRow w.heap.size 3 1 u R.length (ints R) ∧ Below w.heap.size w w' := by
  subst hn
  exact implHopefulLocks_c v m aL cL L w R b hp hm hL hLl wl
end Go.Proofs.Ytcjcgcgcloanpaa
namespace Go.Proofs.Ytcjcgcgcloanpaa
open Go.RowKit Go.KD
attribute [local go_sem] later_cell later_frozen
set_option maxRecDepth 100000 in
set_option maxHeartbeats 16000000 in
theorem lawFnSafe_c (a : Option Addr) (cap n : Nat) (w : World) (hb0 : BC w a n) (hn : n ≤ maxLen) : Calls Try.prog 4 #[.slice a n cap] w fun e w' => e = .returned (.bool true) ∧ Below w.heap.size w w' := by
  have HBC := Lib.hid hb0
  clear hb0
  by_cases hbig : 65536 < n
  · have hd : decide (65536 < n) = true := decide_eq_true hbig
    go_enter Try.func4, Try.ntmps4
    go_wp2_with fail
    refine (vBig_c a n cap _ hn).mono ?_
    rintro e w1 ⟨rfl, rfl⟩
    go_wp2_with fail
    go_ret
    exact ⟨rfl, Below.refl _ _⟩
  · have hd : decide (65536 < n) = false := decide_eq_false hbig
    have hn6 : n ≤ 65536 := by omega
    go_enter Try.func4, Try.ntmps4
    go_wp2_with fail
    refine (vBig_c a n cap _ hn).mono ?_
    rintro e w0 ⟨rfl, rfl⟩
    clear hbig
    have HB : Hid (Below w.heap.size w w) := Below.refl _ _
    go_wp2_with fail
    refine (drawFirstWin_c a n cap _ HBC.out hn6).mono ?_
    rintro e w1 ⟨v, mA, rfl, ⟨hstA, hsA, hdA, hkA, hb1⟩⟩
    clear hd
    obtain ⟨⟨adA, cdA, akA, ckA, rfl, -, -⟩, -, -⟩ := hstA _ (Chg.refl _ _ _)
    have HAT := Lib.hid (hstA _ (Chg.refl _ _ _))
    clear hstA
    replace HB := Lib.hid (below_then HB.out hb1)
    replace HBC := Lib.hid (HBC.out.later hb1)
    clear hb1
    clear HBC
    have HSAN : Hid (MS (w1.alloc (.cells #[.int .i64 mA.size, .slice adA mA.doors.length cdA, .slice akA mA.keys.length ckA] 27)) w1.heap.size (.slice adA mA.doors.length cdA) (.slice akA mA.keys.length ckA) mA) := MS.new _ HAT.out
    replace HB := Lib.hid (below_then HB.out (belowM _ (.cells #[.int .i64 mA.size, .slice adA mA.doors.length cdA, .slice akA mA.keys.length ckA] 27)))
    have HSA := Lib.hid HSAN.out
    clear HSAN
    clear HAT
    obtain ⟨good, ok, fine, safe, all, N, WN, ST, LK, ⟨p1, p2, p3, p4, p5⟩, ⟨hWl, hSl, hN⟩, ⟨hWf, hSf⟩, hrel, hyes⟩ := safe_all mA
    have HP1 := Lib.hid p1
    have HP2 := Lib.hid p2
    have HP3 := Lib.hid p3
    have HP4 := Lib.hid p4
    have HP5 := Lib.hid p5
    have HWF := Lib.hid hWf
    have HSF := Lib.hid hSf
    have HREL := Lib.hid hrel
    have HYES := Lib.hid hyes
    clear p1 p2 p3 p4 p5 hWf hSf hrel hyes
    have c0_HSA := HSA.out.c0
    have c1_HSA := HSA.out.c1
    have c2_HSA := HSA.out.c2
    have lt_HSA := HSA.out.lt
    go_wp2_with fail
    clear c0_HSA c1_HSA c2_HSA lt_HSA
    refine (implFirstWin_c _ mA _ WN ok HP1.out HSA.out.at').mono ?_
    rintro e w2 ⟨u, rfl, hou, hb2⟩
    obtain ⟨aW, cW, rfl⟩ := own_slice hou
    have HIW : Hid (IC w2 aW WN) := ic_of' (Own.of hou) rfl
    have HCW : Hid (0 < WN.length → WN.length ≤ cW ∧ cW ≤ maxLen) := fun h => own_caps (Own.of hou) h
    clear hou
    replace HB := Lib.hid (below_then HB.out hb2)
    replace HSA := Lib.hid (HSA.out.later hb2)
    clear hb2
    have c0_HSA := HSA.out.c0
    have c1_HSA := HSA.out.c1
    have c2_HSA := HSA.out.c2
    have lt_HSA := HSA.out.lt
    go_wp2_with fail
    clear c0_HSA c1_HSA c2_HSA lt_HSA
    refine (specFirstWin_c _ mA _ WN ok HP1.out HSA.out.at').mono ?_
    rintro e w3 ⟨aWw, cWw, rfl, hi, hb3⟩
    have HIWw := Lib.hid hi
    clear hi
    replace HB := Lib.hid (below_then HB.out hb3)
    replace HSA := Lib.hid (HSA.out.later hb3)
    replace HIW := Lib.hid (HIW.out.later hb3)
    clear hb3
    have c0_HSA := HSA.out.c0
    have c1_HSA := HSA.out.c1
    have c2_HSA := HSA.out.c2
    have lt_HSA := HSA.out.lt
    go_wp2_with fail
    clear c0_HSA c1_HSA c2_HSA lt_HSA
    refine (implFirstStuck_c _ mA _ ST fine HP2.out HSA.out.at').mono ?_
    rintro e w4 ⟨u, rfl, hou, hb4⟩
    obtain ⟨aS, cS, rfl⟩ := own_slice hou
    have HIS : Hid (IC w4 aS ST) := ic_of' (Own.of hou) rfl
    have HCS : Hid (0 < ST.length → ST.length ≤ cS ∧ cS ≤ maxLen) := fun h => own_caps (Own.of hou) h
    clear hou
    replace HB := Lib.hid (below_then HB.out hb4)
    replace HSA := Lib.hid (HSA.out.later hb4)
    replace HIW := Lib.hid (HIW.out.later hb4)
    replace HIWw := Lib.hid (HIWw.out.later hb4)
    clear hb4
    have c0_HSA := HSA.out.c0
    have c1_HSA := HSA.out.c1
    have c2_HSA := HSA.out.c2
    have lt_HSA := HSA.out.lt
    go_wp2_with fail
    clear c0_HSA c1_HSA c2_HSA lt_HSA
    refine (specFirstStuck_c _ mA _ ST fine HP2.out HSA.out.at').mono ?_
    rintro e w5 ⟨aSw, cSw, rfl, hi, hb5⟩
    have HISw := Lib.hid hi
    clear hi
    replace HB := Lib.hid (below_then HB.out hb5)
    replace HSA := Lib.hid (HSA.out.later hb5)
    replace HIW := Lib.hid (HIW.out.later hb5)
    replace HIWw := Lib.hid (HIWw.out.later hb5)
    replace HIS := Lib.hid (HIS.out.later hb5)
    clear hb5
    have c0_HSA := HSA.out.c0
    have c1_HSA := HSA.out.c1
    have c2_HSA := HSA.out.c2
    have lt_HSA := HSA.out.lt
    go_wp2_with fail
    clear c0_HSA c1_HSA c2_HSA lt_HSA
    refine (implIsSafe_c _ mA _ HSA.out.at').mono ?_
    rw [HP3.out]
    rintro e w6 ⟨rfl, hb6⟩
    replace HB := Lib.hid (below_then HB.out hb6)
    replace HSA := Lib.hid (HSA.out.later hb6)
    replace HIW := Lib.hid (HIW.out.later hb6)
    replace HIWw := Lib.hid (HIWw.out.later hb6)
    replace HIS := Lib.hid (HIS.out.later hb6)
    replace HISw := Lib.hid (HISw.out.later hb6)
    clear hb6
    dsimp only
    have c0_HSA := HSA.out.c0
    have c1_HSA := HSA.out.c1
    have c2_HSA := HSA.out.c2
    have lt_HSA := HSA.out.lt
    go_wp2_with fail
    clear c0_HSA c1_HSA c2_HSA lt_HSA
    refine (specIsSafe_c _ mA _ HSA.out.at').mono ?_
    rw [HP3.out]
    rintro e w7 ⟨rfl, hb7⟩
    replace HB := Lib.hid (below_then HB.out hb7)
    replace HSA := Lib.hid (HSA.out.later hb7)
    replace HIW := Lib.hid (HIW.out.later hb7)
    replace HIWw := Lib.hid (HIWw.out.later hb7)
    replace HIS := Lib.hid (HIS.out.later hb7)
    replace HISw := Lib.hid (HISw.out.later hb7)
    clear hb7
    dsimp only
    have c0_HSA := HSA.out.c0
    have c1_HSA := HSA.out.c1
    have c2_HSA := HSA.out.c2
    have lt_HSA := HSA.out.lt
    go_wp2_with fail
    clear c0_HSA c1_HSA c2_HSA lt_HSA
    refine (implCountStates_c _ mA _ HSA.out.at').mono ?_
    rw [HP4.out]
    rintro e w8 ⟨rfl, hb8⟩
    replace HB := Lib.hid (below_then HB.out hb8)
    replace HSA := Lib.hid (HSA.out.later hb8)
    replace HIW := Lib.hid (HIW.out.later hb8)
    replace HIWw := Lib.hid (HIWw.out.later hb8)
    replace HIS := Lib.hid (HIS.out.later hb8)
    replace HISw := Lib.hid (HISw.out.later hb8)
    clear hb8
    dsimp only
    have c0_HSA := HSA.out.c0
    have c1_HSA := HSA.out.c1
    have c2_HSA := HSA.out.c2
    have lt_HSA := HSA.out.lt
    go_wp2_with fail
    clear c0_HSA c1_HSA c2_HSA lt_HSA
    refine (specCountStates_c _ mA _ HSA.out.at').mono ?_
    rw [HP4.out]
    rintro e w9 ⟨rfl, hb9⟩
    replace HB := Lib.hid (below_then HB.out hb9)
    replace HSA := Lib.hid (HSA.out.later hb9)
    replace HIW := Lib.hid (HIW.out.later hb9)
    replace HIWw := Lib.hid (HIWw.out.later hb9)
    replace HIS := Lib.hid (HIS.out.later hb9)
    replace HISw := Lib.hid (HISw.out.later hb9)
    clear hb9
    dsimp only
    have c0_HSA := HSA.out.c0
    have c1_HSA := HSA.out.c1
    have c2_HSA := HSA.out.c2
    have lt_HSA := HSA.out.lt
    go_wp2_with fail
    clear c0_HSA c1_HSA c2_HSA lt_HSA
    refine (implAllOpened_c _ mA _ HSA.out.at').mono ?_
    rw [HP5.out]
    rintro e w10 ⟨rfl, hb10⟩
    replace HB := Lib.hid (below_then HB.out hb10)
    replace HSA := Lib.hid (HSA.out.later hb10)
    replace HIW := Lib.hid (HIW.out.later hb10)
    replace HIWw := Lib.hid (HIWw.out.later hb10)
    replace HIS := Lib.hid (HIS.out.later hb10)
    replace HISw := Lib.hid (HISw.out.later hb10)
    clear hb10
    dsimp only
    have c0_HSA := HSA.out.c0
    have c1_HSA := HSA.out.c1
    have c2_HSA := HSA.out.c2
    have lt_HSA := HSA.out.lt
    go_wp2_with fail
    clear c0_HSA c1_HSA c2_HSA lt_HSA
    refine (specAllOpened_c _ mA _ HSA.out.at').mono ?_
    rw [HP5.out]
    rintro e w11 ⟨rfl, hb11⟩
    replace HB := Lib.hid (below_then HB.out hb11)
    replace HSA := Lib.hid (HSA.out.later hb11)
    replace HIW := Lib.hid (HIW.out.later hb11)
    replace HIWw := Lib.hid (HIWw.out.later hb11)
    replace HIS := Lib.hid (HIS.out.later hb11)
    replace HISw := Lib.hid (HISw.out.later hb11)
    clear hb11
    dsimp only
    go_upto_region 14 with fail
    go_cut [150] (fun s wx => s = .bool false ∧ Hid (Below w11.heap.size w11 wx))
    case first =>
      as_aux_lemma =>
        have HZ : Hid (Below w11.heap.size w11 w11) := Below.refl _ _
        have gN : ((N : Int) != (N : Int)) = false := by simp
        have hc : (good = false ∧ ok = false ∧ fine = false ∧ safe = false ∧ all = false) ∨ (good = true ∧ safe = false ∧ fine = true ∧ ok = true ∧ all = true) ∨ (good = true ∧ safe = false ∧ fine = true ∧ ok = true ∧ all = false) ∨ (good = true ∧ safe = false ∧ fine = true ∧ ok = false ∧ all = true) ∨ (good = true ∧ safe = false ∧ fine = true ∧ ok = false ∧ all = false) ∨ (good = true ∧ safe = true ∧ fine = false ∧ ok = true ∧ all = true) ∨ (good = true ∧ safe = true ∧ fine = false ∧ ok = true ∧ all = false) := by
          rcases HREL.out with h | ⟨rfl, rfl, h⟩
          · exact .inl h
          · cases fine <;> cases ok <;> cases all <;> simp at h ⊢
        rcases hc with ⟨rfl, rfl, rfl, rfl, rfl⟩ | ⟨rfl, rfl, rfl, rfl, rfl⟩ | ⟨rfl, rfl, rfl, rfl, rfl⟩ | ⟨rfl, rfl, rfl, rfl, rfl⟩ | ⟨rfl, rfl, rfl, rfl, rfl⟩ | ⟨rfl, rfl, rfl, rfl, rfl⟩ | ⟨rfl, rfl, rfl, rfl, rfl⟩
        all_goals
          go_wp2_with fail
          refine (vIntsSame_c _ _ _ _ WN _ HIW.out HIWw.out (by omega)).mono ?_
          rintro e w12 ⟨rfl, hb12⟩
          replace HB := Lib.hid (below_then HB.out hb12)
          replace HSA := Lib.hid (HSA.out.later hb12)
          replace HIW := Lib.hid (HIW.out.later hb12)
          replace HIWw := Lib.hid (HIWw.out.later hb12)
          replace HIS := Lib.hid (HIS.out.later hb12)
          replace HISw := Lib.hid (HISw.out.later hb12)
          replace HZ := Lib.hid (below_then HZ.out hb12)
          clear hb12
          go_wp2_with fail
          refine (vIntsSame_c _ _ _ _ ST _ HIS.out HISw.out (by omega)).mono ?_
          rintro e w13 ⟨rfl, hb13⟩
          replace HB := Lib.hid (below_then HB.out hb13)
          replace HSA := Lib.hid (HSA.out.later hb13)
          replace HIW := Lib.hid (HIW.out.later hb13)
          replace HIWw := Lib.hid (HIWw.out.later hb13)
          replace HIS := Lib.hid (HIS.out.later hb13)
          replace HISw := Lib.hid (HISw.out.later hb13)
          replace HZ := Lib.hid (below_then HZ.out hb13)
          clear hb13
          go_wp2_with fail
          go_meet
          case rel => exact ⟨rfl, HZ.out⟩
    case rest =>
      as_aux_lemma =>
        obtain ⟨w14, rfl⟩ : ∃ w14 : World, w14 = wc := ⟨_, rfl⟩
        obtain ⟨rfl, hc14⟩ := hcut
        have hb14 := hc14.out
        clear hc14
        replace HB := Lib.hid (below_then HB.out hb14)
        replace HSA := Lib.hid (HSA.out.later hb14)
        replace HIW := Lib.hid (HIW.out.later hb14)
        replace HIWw := Lib.hid (HIWw.out.later hb14)
        replace HIS := Lib.hid (HIS.out.later hb14)
        replace HISw := Lib.hid (HISw.out.later hb14)
        clear hb14
        clear HIWw HISw
        cases good
        · obtain ⟨rfl, rfl⟩ : ok = false ∧ fine = false := by
            rcases HREL.out with h | ⟨h, -⟩
            · exact ⟨h.2.1, h.2.2.1⟩
            · cases h
          go_wp2_with fail
          go_ret
          exact ⟨rfl, HB.out⟩
        · have hF := HYES.out rfl
          have hlkl := hF.lkl
          have hn1 := hF.n1
          have HF := Lib.hid hF
          clear hF HYES HREL
          have c0_HSA := HSA.out.c0
          have c1_HSA := HSA.out.c1
          have c2_HSA := HSA.out.c2
          have lt_HSA := HSA.out.lt
          go_wp2_with fail
          clear c0_HSA c1_HSA c2_HSA lt_HSA
          refine (implLocksOf_c _ mA _ LK true HF.out.lk HSA.out.at').mono ?_
          rintro e w15 ⟨u, rfl, hou, hb15⟩
          obtain ⟨aK, cK, rfl⟩ := own_slice hou
          have HIK : Hid (IC w15 aK _) := ic_of' (Own.of hou) rfl
          clear hou
          replace HB := Lib.hid (below_then HB.out hb15)
          replace HSA := Lib.hid (HSA.out.later hb15)
          replace HIW := Lib.hid (HIW.out.later hb15)
          replace HIS := Lib.hid (HIS.out.later hb15)
          clear hb15
          go_upto_region 19 with fail
          go_cut [198] (fun s wx => s = .bool false ∧ Hid (Below w15.heap.size w15 wx))
          case first =>
            as_aux_lemma =>
              obtain ⟨p, HP, ep, hp⟩ := shl_at LK.length (by omega)
              have hn2 : N ≤ p := by rw [HP.out]; exact HF.out.n2
              have g1 : decide ((N : Int) < 1) = false := by simp; omega
              have g2 : decide ((p : Int) < (N : Int)) = false := by simp; omega
              have g2n : decide (p < N) = false := by simp; omega
              have hr63 : (LK.length : Int) < 64 := by omega
              have hr0 : (0 : Int) ≤ (LK.length : Int) := by omega
              have hsf := HF.out.sf
              have hso := HF.out.so
              have hal := HF.out.al
              have HZ : Hid (Below w15.heap.size w15 w15) := Below.refl _ _
              cases fine
              · have hok := hso rfl
                subst hok
                subst hsf
                cases all
                · clear hso hal
                  go_wp2_with fail
                  go_meet
                  case rel => exact ⟨rfl, HZ.out⟩
                · have h3 := hal rfl
                  have g3 : decide ((N : Int) < (LK.length : Int) + 1) = false := by simp; omega
                  clear hso hal
                  go_wp2_with fail
                  go_meet
                  case rel => exact ⟨rfl, HZ.out⟩
              · subst hsf
                clear hso
                cases ok
                all_goals
                  cases all
                  · clear hal
                    go_wp2_with fail
                    go_meet
                    case rel => exact ⟨rfl, HZ.out⟩
                  · have h3 := hal rfl
                    have g3 : decide ((N : Int) < (LK.length : Int) + 1) = false := by simp; omega
                    clear hal
                    go_wp2_with fail
                    go_meet
                    case rel => exact ⟨rfl, HZ.out⟩
          case rest =>
            as_aux_lemma =>
              obtain ⟨w16, rfl⟩ : ∃ w16 : World, w16 = wc := ⟨_, rfl⟩
              obtain ⟨rfl, hc16⟩ := hcut
              have hb16 := hc16.out
              clear hc16
              replace HB := Lib.hid (below_then HB.out hb16)
              replace HSA := Lib.hid (HSA.out.later hb16)
              replace HIW := Lib.hid (HIW.out.later hb16)
              replace HIS := Lib.hid (HIS.out.later hb16)
              replace HIK := Lib.hid (HIK.out.later hb16)
              clear hb16
              clear HIK
              go_upto_if 199 with fail
              go_cut [] (fun wx => Hid (Below w16.heap.size w16 wx))
              case first =>
                as_aux_lemma =>
                  have HZ : Hid (Below w16.heap.size w16 w16) := Below.refl _ _
                  cases ok
                  · go_wp2_with fail
                    go_meet
                    case rel => exact HZ.out
                  · obtain ⟨q1, q2, q3⟩ := HF.out.wi rfl
                    have HQ1 := Lib.hid q1
                    have HQ2 := Lib.hid q2
                    have HQ3 := Lib.hid q3
                    clear q1 q2 q3
                    have c0_HSA := HSA.out.c0
                    have c1_HSA := HSA.out.c1
                    have c2_HSA := HSA.out.c2
                    have lt_HSA := HSA.out.lt
                    go_wp2_with fail
                    clear c0_HSA c1_HSA c2_HSA lt_HSA
                    refine (implCanWin0_c _ mA _ HSA.out.at' HF.out.mok).mono ?_
                    rw [HQ1.out]
                    rintro e w17 ⟨rfl, hb17⟩
                    replace HB := Lib.hid (below_then HB.out hb17)
                    replace HSA := Lib.hid (HSA.out.later hb17)
                    replace HIW := Lib.hid (HIW.out.later hb17)
                    replace HIS := Lib.hid (HIS.out.later hb17)
                    replace HZ := Lib.hid (below_then HZ.out hb17)
                    clear hb17
                    have c0_HSA := HSA.out.c0
                    have c1_HSA := HSA.out.c1
                    have c2_HSA := HSA.out.c2
                    have lt_HSA := HSA.out.lt
                    go_wp2_with fail
                    clear c0_HSA c1_HSA c2_HSA lt_HSA
                    refine (implWinsBy_c _ mA _ _ WN _ HSA.out.at' HIW.out (by omega) HWF.out).mono ?_
                    rw [HQ2.out]
                    rintro e w18 ⟨rfl, hb18⟩
                    replace HB := Lib.hid (below_then HB.out hb18)
                    replace HSA := Lib.hid (HSA.out.later hb18)
                    replace HIW := Lib.hid (HIW.out.later hb18)
                    replace HIS := Lib.hid (HIS.out.later hb18)
                    replace HZ := Lib.hid (below_then HZ.out hb18)
                    clear hb18
                    dsimp only
                    go_wp2_with fail
                    go_loopw [30] (fun v wr => ∃ k : Nat, v = .int .i64 k ∧ k ≤ WN.length ∧ Hid (Below w18.heap.size w18 wr)) (fun v _ => WN.length - (intOf v).toNat)
                    case atStart => exact ⟨0, rfl, Nat.zero_le _, Below.refl _ _⟩
                    case round =>
                      obtain ⟨wi, rfl⟩ : ∃ wi : World, wi = wr := ⟨_, rfl⟩
                      obtain ⟨k, rfl, hk, HBi⟩ := hrel
                      by_cases hlt : k < WN.length
                      · have hkI : (k : Int) < (WN.length : Int) := by omega
                        have hk0 : (0 : Int) ≤ (k : Int) := by omega
                        have hcc := HCW.out (by omega)
                        have hkc : (k : Int) ≤ (cW : Int) := by omega
                        have hc63 := hcc.2
                        unfold maxLen at hc63
                        obtain ⟨HPk, hq1, hq2, hq3⟩ := HQ3.out k hlt
                        have HQP := Lib.hid hq1
                        have HQH := Lib.hid hq2
                        have HIWi := Lib.hid (HIW.out.later HBi.out)
                        obtain ⟨b1, o1, x1, rfl, HX1, hbs1, e1⟩ := HIWi.out.at k hlt
                        rw [HX1.out] at HQH
                        have HSi := Lib.hid (HSA.out.later HBi.out)
                        have c0 := HSi.out.c0
                        have c1 := HSi.out.c1
                        have c2 := HSi.out.c2
                        have lt := HSi.out.lt
                        have hkl : k = (WN.take k).length := by rw [List.length_take]; omega
                        have HKL := Lib.hid hkl
                        have HWT : Hid (∀ x ∈ WN.take k, wfI x) := fun x hx => HWF.out x (List.mem_of_mem_take hx)
                        clear hcc hq1 hq2 hkl
                        have HSd := Lib.hid (HSi.out.at'.later (Below.refl _ _).drew)
                        go_upto_region 29 with fail
                        go_region_with (go_at_call 19; (with_reducible refine (implHopefulLocksN_c _ mA _ _ _ (WN.take k) _ HPk true HKL.out HQP.out HSd.out ?_ ?_ HWT.out).mono ?_); (exact ic_takeH (HIWi.out.later (Below.refl _ _).drew) k); (rw [← HKL.out]; omega); rintro e w2 ⟨u, rfl, hou, hb2⟩; obtain ⟨aP, cP, rfl⟩ := own_slice hou; have HIP : Hid (IC w2 aP HPk) := ic_of' (Own.of hou) rfl; have HB2 : Hid (Below wi.heap.size wi w2) := Below.trans (Below.refl _ _).drew (hb2.mono (by simp)); clear hou hb2)
                        all_goals
                          clear c0 c1 c2 lt
                          have t1 : w2.cell? ⟨b1, o1 + k, none⟩ = some (.int .i64 x1) := (HB2.out.cell (p := ⟨b1, o1 + k, none⟩) hbs1).trans e1
                          have t2 : b1 < w2.heap.size := by have := HB2.out.size; omega
                          go_wp2_with fail
                          clear t1 t2
                          refine (vHas_c _ _ HPk x1 _ HIP.out (by omega)).mono ?_
                          rw [HQH.out]
                          rintro e w3 ⟨rfl, hb3⟩
                          have HB3 := Lib.hid (below_then (below_then HBi.out HB2.out) hb3)
                          clear hb3
                          go_wp2_with fail
                          go_roundw
                          case rel => exact ⟨k + 1, by go_num, by omega, HB3⟩
                          case measure => simp [intOf]; omega
                      · obtain rfl : k = WN.length := by omega
                        go_wp2_with fail
                        go_meet
                        case rel => exact below_then HZ.out HBi.out
              case rest =>
                as_aux_lemma =>
                  obtain ⟨w19, rfl⟩ : ∃ w19 : World, w19 = wc := ⟨_, rfl⟩
                  have hb19 := hcut.out
                  clear hcut
                  replace HB := Lib.hid (below_then HB.out hb19)
                  replace HSA := Lib.hid (HSA.out.later hb19)
                  replace HIW := Lib.hid (HIW.out.later hb19)
                  replace HIS := Lib.hid (HIS.out.later hb19)
                  clear hb19
                  cases fine
                  · go_wp2_with fail
                    go_ret
                    exact ⟨rfl, HB.out⟩
                  · obtain ⟨q1, q2⟩ := HF.out.st rfl
                    have HQ1 := Lib.hid q1
                    have HQ2 := Lib.hid q2
                    clear q1 q2
                    have c0_HSA := HSA.out.c0
                    have c1_HSA := HSA.out.c1
                    have c2_HSA := HSA.out.c2
                    have lt_HSA := HSA.out.lt
                    go_wp2_with fail
                    clear c0_HSA c1_HSA c2_HSA lt_HSA
                    refine (implWinsBy_c _ mA _ _ ST _ HSA.out.at' HIS.out (by omega) HSF.out).mono ?_
                    rw [HQ1.out]
                    rintro e w20 ⟨rfl, hb20⟩
                    replace HB := Lib.hid (below_then HB.out hb20)
                    replace HSA := Lib.hid (HSA.out.later hb20)
                    replace HIW := Lib.hid (HIW.out.later hb20)
                    replace HIS := Lib.hid (HIS.out.later hb20)
                    clear hb20
                    dsimp only
                    have c0_HSA := HSA.out.c0
                    have c1_HSA := HSA.out.c1
                    have c2_HSA := HSA.out.c2
                    have lt_HSA := HSA.out.lt
                    go_wp2_with fail
                    clear c0_HSA c1_HSA c2_HSA lt_HSA
                    refine (implNextLocks_c _ mA _ _ ST _ [] true HQ2.out HSA.out.at' HIS.out (by omega) HSF.out).mono ?_
                    rintro e w21 ⟨u, rfl, hou, hb21⟩
                    obtain ⟨aX, cX, rfl⟩ := own_slice hou
                    have HIX : Hid (IC w21 aX _) := ic_of' (Own.of hou) rfl
                    clear hou
                    replace HB := Lib.hid (below_then HB.out hb21)
                    replace HSA := Lib.hid (HSA.out.later hb21)
                    replace HIW := Lib.hid (HIW.out.later hb21)
                    replace HIS := Lib.hid (HIS.out.later hb21)
                    clear hb21
                    go_wp2_with fail
                    go_ret
                    exact ⟨rfl, HB.out⟩
end Go.Proofs.Ytcjcgcgcloanpaa

namespace Go.Proofs.Ytcjcgcgcloanpaa.lawFnSafe
open Go.ChangeShapes Go.WideShapes Go.ChangeAt Go.RowKit Go.Joins Go.KD
theorem own : ownKnob Try.prog.godebug = none := by kernel_rfl
theorem laidOut : laidOutB Try.prog = true := by kernel_rfl
theorem cI : Try.prog.cellsOf 5 = 1 := by kernel_rfl
set_option maxRecDepth 100000 in
theorem lifted (os : Os) (started : os.Started) (H : Type) (enc : TypeId × Value → H) :
    ReturnsInHanded {} Try.checked os 4 .any (Rows.fnSafeSpec.pre6 enc Try.prog Try.f4 Rows.fnSafeRow.domain false) (Rows.fnSafeSpec.post enc Try.prog Try.f4 false true false false) := by
  refine returnsInHanded_of_change (C := Try.checked) own started (by kernel_rfl) Try.func4
    (ChangeSpec.witness6 (enc := enc) (C := Try.checked) false ⟨#[], #[.slice none 0 0], []⟩ 8 (by kernel_rfl) (by kernel_rfl) (by kernel_rfl) (by kernel_rfl)) ?_
  intro W base args ds gs before hval0 hW hcnd _
  have hval : ∀ (j : Nat) t v, Try.f4.params[j]? = some t → args[j]? = some v → Value.okWide Try.prog W .any base t v := hval0
  have hW' := hW
  obtain ⟨p, q, hA0, hV, rfl, hfz, hnd⟩ := hW
  have hA : DataW.TrodAll enc Try.prog W 0 (fun _ => true) true Try.f4.params.toList args.toList ds p := hA0
  rw [Try.params4] at hA hval
  obtain ⟨v0, vs0, d0, ds0, p0, q0, hargs, rfl, rfl, h0, r0⟩ := trodAll_cons hA
  obtain ⟨rfl, rfl, rfl⟩ := trodAll_nil r0
  obtain rfl : args = #[v0] := by cases args; simp_all
  obtain ⟨rfl, rfl⟩ := trodVars_none hV
  have k0 := h0
  have lt0 : ∀ x ∈ p0, x.block < W.heap.size := by obtain ⟨m, hm⟩ := k0; exact DataW.trod_lt m _ _ _ hm
  obtain ⟨as0, cs0, n0, rfl, ls0n, hs0⟩ : ∃ a cap, ∃ n : Nat, v0 = .slice a n cap ∧ n ≤ maxLen ∧ BC W a n := by
    obtain ⟨aa, ll, cc, rfl⟩ := okWide_slice Try.underlying22 (hval 0 22 v0 rfl rfl)
    obtain ⟨fuel, hf⟩ := h0
    exact open_bc Try.underlying22 Try.underlying5 cI hf
  clear hA0 hval0
  refine (lawFnSafe_c as0 cs0 n0 W hs0 ls0n).mono fun e W' ⟨he, bel⟩ => ?_
  subst he
  exact ⟨_, rfl, _, _, _, [], _, [], hW', trodAll_mk1 (shut_bool Try.underlying4 _), (trodAll_cons_mk (Below.trod laidOut (by kernel_rfl) (of_decide_eq_true (by kernel_rfl)) k0 bel lt0) trodAll_mk0), rfl, bel.frame _, fun h => by cases h⟩
theorem over : Rows.fnSafeRow.holds Try.pinned (OpenSpec.ofChange Rows.fnSafeSpec) :=
  OpenClaim.holds_of_wide 4 Try.f4 rfl rfl rfl rfl rfl rfl rfl ⟨rfl, rfl, rfl, rfl, rfl⟩ rfl rfl rfl rfl rfl (by kernel_rfl) Try.func4 (by kernel_rfl)
    (of_decide_eq_true (by kernel_rfl)) (by unfold Func.isWrapper; first | (rw [if_pos (by decide +kernel)]; kernel_rfl) | (rw [if_neg (by decide +kernel)]; exact ⟨rfl, rfl⟩))
    (fun os started H enc _ => lifted os started H enc)
end Go.Proofs.Ytcjcgcgcloanpaa.lawFnSafe
namespace Go.Proofs.Ytcjcgcgcloanpaa
theorem fnSafe_holds : Rows.FnSafeSaid := lawFnSafe.over
end Go.Proofs.Ytcjcgcgcloanpaa
