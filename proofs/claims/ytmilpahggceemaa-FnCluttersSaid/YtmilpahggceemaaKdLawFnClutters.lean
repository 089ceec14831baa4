/- The law FnClutters, walked. Printed by dev/mk_lawclut.py. -/
import Derived.Test.YtmilpahggceemaaKdDrw2
import Derived.Test.YtmilpahggceemaaKdClutP
import Derived.Deep.DeepCutAuto
set_option linter.unusedVariables false
set_option linter.unusedSimpArgs false
namespace Go.KD
open Go.RowKit
theorem pDualOf_ok {l R : List Int} {b : Bool} (h : pDualOf l = (R, b)) : b = isClB l ∧ R.length ≤ 64 ∧ ∀ x ∈ R, wfI x := by
  unfold pDualOf at h
  cases hc : isClB l
  · rw [hc] at h; simp at h
    obtain ⟨rfl, rfl⟩ := h
    exact ⟨rfl, by simp, fun x hx => (by cases hx)⟩
  · rw [hc] at h; simp at h
    obtain ⟨rfl, rfl⟩ := h
    refine ⟨rfl, by rw [natsI_len]; exact lstL_len _, fun x hx => ?_⟩
    obtain ⟨t, ht, rfl⟩ := List.mem_map.1 hx
    have := lstL_lt ht
    exact wfI_small (by omega) (by omega)
theorem pClutterOf_ok {l R : List Int} {b : Bool} (h : pClutterOf l = (R, b)) : b = setsB l ∧ R.length ≤ 64 ∧ (∀ x ∈ R, wfI x) ∧ setsB R = true := by
  unfold pClutterOf at h
  cases hc : setsB l
  · rw [hc] at h; simp at h
    obtain ⟨rfl, rfl⟩ := h
    exact ⟨rfl, by simp, fun x hx => (by cases hx), rfl⟩
  · rw [hc] at h; simp at h
    obtain ⟨rfl, rfl⟩ := h
    refine ⟨rfl, by rw [natsI_len]; exact lstL_len _, fun x hx => ?_, natsI_sets fun t ht => lstL_lt ht⟩
    obtain ⟨t, ht, rfl⟩ := List.mem_map.1 hx
    have := lstL_lt ht
    exact wfI_small (by omega) (by omega)
theorem sub_and {a b : Nat} (ha : a < 1099511627776) (hb : b < 1099511627776) : (bits .and .i64 (a : Int) (b : Int) == (b : Int)) = subB b a := by
  have e : bits .and .i64 (a : Int) (b : Int) = ((a &&& b : Nat) : Int) := (bits_nat .i64 40 (by decide) wraps_i64 a b ha hb).1
  rw [e, Bool.eq_iff_iff, subB_iff, beq_iff_eq]
  constructor
  · intro h i hi
    have h : a &&& b = b := by omega
    have := congrArg (fun z => Nat.testBit z i) h
    simp only [Nat.testBit_and, hi, Bool.and_true] at this
    exact this
  · intro h
    have : a &&& b = b := by
      apply Nat.eq_of_testBit_eq
      intro i
      rw [Nat.testBit_and]
      cases hb : b.testBit i
      · simp
      · rw [h i hb]; rfl
    rw [this]
/-- Is one of the first k below x? -/
def someK (M : List Int) (x : Int) (k : Nat) : Bool := (List.range k).any fun j => subB (M[j]!).toNat x.toNat
theorem someK_next (M : List Int) (x : Int) (k : Nat) : someK M x (k + 1) = (someK M x k || subB (M[k]!).toNat x.toNat) := by
  unfold someK
  rw [List.range_succ, List.any_append]; simp
end Go.KD
namespace Go.Proofs.Ytmilpahggceemaa
open Go.RowKit Go.KD
attribute [local go_sem] later_cell later_frozen
set_option maxRecDepth 100000 in
set_option maxHeartbeats 8000000 in
theorem lawFnClutters_c (a : Option Addr) (cap n : Nat) (w : World) (hb0 : BC w a n) (hn : n ≤ maxLen) : Calls Try.prog 3 #[.slice a n cap] w fun e w' => e = .returned (.bool true) ∧ Below w.heap.size w w' := by
  have HBC := Lib.hid hb0
  clear hb0
  by_cases hbig : 65536 < n
  · have hd : decide (65536 < n) = true := decide_eq_true hbig
    go_enter Try.func3, Try.ntmps3
    go_wp2_with fail
    refine (rBig_c a n cap _ hn).mono ?_
    rintro e w1 ⟨rfl, rfl⟩
    go_wp2_with fail
    go_ret
    exact ⟨rfl, Below.refl _ _⟩
  · have hd : decide (65536 < n) = false := decide_eq_false hbig
    have hn6 : n ≤ 65536 := by omega
    go_enter Try.func3, Try.ntmps3
    go_wp2_with fail
    refine (rBig_c a n cap _ hn).mono ?_
    rintro e w0 ⟨rfl, rfl⟩
    clear hbig
    go_wp2_with fail
    clear hd
    have HB : Hid (Below w.heap.size w w) := Below.refl _ _
    refine (drawDualOf_c a n cap _ HBC.out hn6).mono ?_
    rintro e w1 ⟨a0, c0, L0, rfl, hi0, hl0, hf0, hb1⟩
    have HI0 := Lib.hid hi0
    have HF0 := Lib.hid hf0
    clear hi0 hf0
    replace HB := Lib.hid (below_then HB.out hb1)
    replace HBC := Lib.hid (HBC.out.later hb1)
    clear hb1
    obtain ⟨D, ok, hp0⟩ : ∃ D ok, pDualOf L0 = (D, ok) := ⟨_, _, rfl⟩
    have HP0 := Lib.hid hp0
    obtain ⟨hok, hDl, hDf⟩ := pDualOf_ok hp0
    have HOK := Lib.hid hok
    have HDF := Lib.hid hDf
    clear hp0 hok hDf
    go_wp2_with fail
    refine (implDualOf_c _ _ L0 _ D ok HP0.out HI0.out (by omega) HF0.out).mono ?_
    rintro e w2 ⟨u2, rfl, ho2, hb2⟩
    obtain ⟨aD, cD, rfl⟩ := own_slice ho2
    have HID : Hid (IC w2 aD D) := ic_of' (Own.of ho2) rfl
    clear ho2
    replace HB := Lib.hid (below_then HB.out hb2)
    replace HBC := Lib.hid (HBC.out.later hb2)
    replace HI0 := Lib.hid (HI0.out.later hb2)
    clear hb2
    go_wp2_with fail
    refine (specDualOf_c _ _ L0 _ D ok HP0.out HI0.out (by omega) HF0.out).mono ?_
    rintro e w3 ⟨aE, cE, rfl, hi3, hb3⟩
    have HIE := Lib.hid hi3
    clear hi3
    replace HB := Lib.hid (below_then HB.out hb3)
    replace HBC := Lib.hid (HBC.out.later hb3)
    replace HI0 := Lib.hid (HI0.out.later hb3)
    replace HID := Lib.hid (HID.out.later hb3)
    clear hb3
    go_wp2_with fail
    refine (implIsClutter_c _ _ L0 _ HI0.out (by omega) HF0.out).mono ?_
    rintro e w4 ⟨rfl, hb4⟩
    rw [← HOK.out]
    replace HB := Lib.hid (below_then HB.out hb4)
    replace HBC := Lib.hid (HBC.out.later hb4)
    replace HI0 := Lib.hid (HI0.out.later hb4)
    replace HID := Lib.hid (HID.out.later hb4)
    replace HIE := Lib.hid (HIE.out.later hb4)
    clear hb4
    go_wp2_with fail
    refine (rInts_c _ _ _ _ D D _ HID.out HIE.out (by omega) (by omega)).mono ?_
    rintro e w5 ⟨rfl, hb5⟩
    replace HB := Lib.hid (below_then HB.out hb5)
    replace HBC := Lib.hid (HBC.out.later hb5)
    replace HI0 := Lib.hid (HI0.out.later hb5)
    replace HID := Lib.hid (HID.out.later hb5)
    replace HIE := Lib.hid (HIE.out.later hb5)
    clear hb5
    clear HIE
    go_wp2_with fail
    refine (drawClutterOf_c a n cap _ HBC.out hn6).mono ?_
    rintro e w6 ⟨a1, c1, L1, rfl, hi1, hl1, hf1, hb6⟩
    have HI1 := Lib.hid hi1
    have HF1 := Lib.hid hf1
    clear hi1 hf1
    replace HB := Lib.hid (below_then HB.out hb6)
    replace HBC := Lib.hid (HBC.out.later hb6)
    replace HI0 := Lib.hid (HI0.out.later hb6)
    replace HID := Lib.hid (HID.out.later hb6)
    clear hb6
    obtain ⟨M, one, hp1⟩ : ∃ M one, pClutterOf L1 = (M, one) := ⟨_, _, rfl⟩
    have HP1 := Lib.hid hp1
    obtain ⟨hone, hMl, hMf, hMs⟩ := pClutterOf_ok hp1
    have HONE := Lib.hid hone
    have HMF := Lib.hid hMf
    have HMS := Lib.hid hMs
    clear hp1 hone hMf hMs
    go_wp2_with fail
    refine (implClutterOf_c _ _ L1 _ M one HP1.out HI1.out (by omega) HF1.out).mono ?_
    rintro e w7 ⟨u7, rfl, ho7, hb7⟩
    obtain ⟨aM, cM, rfl⟩ := own_slice ho7
    have HIM : Hid (IC w7 aM M) := ic_of' (Own.of ho7) rfl
    clear ho7
    replace HB := Lib.hid (below_then HB.out hb7)
    replace HBC := Lib.hid (HBC.out.later hb7)
    replace HI0 := Lib.hid (HI0.out.later hb7)
    replace HID := Lib.hid (HID.out.later hb7)
    replace HI1 := Lib.hid (HI1.out.later hb7)
    clear hb7
    go_wp2_with fail
    refine (specClutterOf_c _ _ L1 _ M one HP1.out HI1.out (by omega) HF1.out).mono ?_
    rintro e w8 ⟨aE, cE, rfl, hi8, hb8⟩
    have HIE := Lib.hid hi8
    clear hi8
    replace HB := Lib.hid (below_then HB.out hb8)
    replace HBC := Lib.hid (HBC.out.later hb8)
    replace HI0 := Lib.hid (HI0.out.later hb8)
    replace HID := Lib.hid (HID.out.later hb8)
    replace HI1 := Lib.hid (HI1.out.later hb8)
    replace HIM := Lib.hid (HIM.out.later hb8)
    clear hb8
    go_wp2_with fail
    refine (rInts_c _ _ _ _ M M _ HIM.out HIE.out (by omega) (by omega)).mono ?_
    rintro e w9 ⟨rfl, hb9⟩
    replace HB := Lib.hid (below_then HB.out hb9)
    replace HBC := Lib.hid (HBC.out.later hb9)
    replace HI0 := Lib.hid (HI0.out.later hb9)
    replace HID := Lib.hid (HID.out.later hb9)
    replace HI1 := Lib.hid (HI1.out.later hb9)
    replace HIM := Lib.hid (HIM.out.later hb9)
    replace HIE := Lib.hid (HIE.out.later hb9)
    clear hb9
    clear HIE
    go_wp2_with fail
    refine (drawMeetsAll_c a n cap _ HBC.out hn6).mono ?_
    rintro e w10 ⟨a2, c2, L2, s2, rfl, hi2, hl2, hf2, hs2, hb10⟩
    have HI2 := Lib.hid hi2
    have HF2 := Lib.hid hf2
    have HS2 := Lib.hid hs2
    clear hi2 hf2 hs2
    replace HB := Lib.hid (below_then HB.out hb10)
    replace HBC := Lib.hid (HBC.out.later hb10)
    replace HI0 := Lib.hid (HI0.out.later hb10)
    replace HID := Lib.hid (HID.out.later hb10)
    replace HI1 := Lib.hid (HI1.out.later hb10)
    replace HIM := Lib.hid (HIM.out.later hb10)
    clear hb10
    obtain ⟨mx, my, hp2⟩ : ∃ mx my, pMeetsAll L2 s2 = (mx, my) := ⟨_, _, rfl⟩
    have HP2 := Lib.hid hp2
    clear hp2
    go_wp2_with fail
    refine (implMeetsAll_c _ _ L2 s2 _ HI2.out (by omega) HF2.out HS2.out).mono ?_
    rw [HP2.out]
    rintro e w11 ⟨rfl, hb11⟩
    replace HB := Lib.hid (below_then HB.out hb11)
    replace HBC := Lib.hid (HBC.out.later hb11)
    replace HI0 := Lib.hid (HI0.out.later hb11)
    replace HID := Lib.hid (HID.out.later hb11)
    replace HI1 := Lib.hid (HI1.out.later hb11)
    replace HIM := Lib.hid (HIM.out.later hb11)
    replace HI2 := Lib.hid (HI2.out.later hb11)
    clear hb11
    go_wp2_with fail
    refine (specMeetsAll_c _ _ L2 s2 _ HI2.out (by omega) HF2.out HS2.out).mono ?_
    rw [HP2.out]
    rintro e w12 ⟨rfl, hb12⟩
    replace HB := Lib.hid (below_then HB.out hb12)
    replace HBC := Lib.hid (HBC.out.later hb12)
    replace HI0 := Lib.hid (HI0.out.later hb12)
    replace HID := Lib.hid (HID.out.later hb12)
    replace HI1 := Lib.hid (HI1.out.later hb12)
    replace HIM := Lib.hid (HIM.out.later hb12)
    replace HI2 := Lib.hid (HI2.out.later hb12)
    clear hb12
    clear HI2
    dsimp only
    go_upto_if 102 with fail
    go_cut [] (fun wx => Hid (Below w12.heap.size w12 wx))
    case first =>
      cases one
      · go_wp2_with fail
        go_meet
        case rel => exact Below.refl _ _
      · obtain ⟨hmc, hmh⟩ := made_has HP1.out
        have HMC := Lib.hid hmc
        have HMH := Lib.hid hmh
        clear hmc hmh
        go_wp2_with fail
        refine (implIsClutter_c _ _ M _ HIM.out (by omega) HMF.out).mono ?_
        rw [HMC.out]
        rintro e w13 ⟨rfl, hb13⟩
        have HB13 := Lib.hid hb13
        clear hb13
        go_wp2_with fail
        go_loopw [19] (fun v wr => ∃ k : Nat, v = .int .i64 k ∧ k ≤ L1.length ∧ Hid (Below w12.heap.size w12 wr)) (fun v _ => L1.length - (intOf v).toNat)
        case atStart => exact ⟨0, rfl, Nat.zero_le _, HB13⟩
        case round =>
          clear HB13
          obtain ⟨wo, rfl⟩ : ∃ wo : World, wo = wr := ⟨_, rfl⟩
          obtain ⟨i, rfl, hi, HBo⟩ := hrel
          by_cases hlt : i < L1.length
          · have hiI : (i : Int) < (L1.length : Int) := by omega
            have hset : setB L1[i]! = true := by
              have h1 := HONE.out
              unfold setsB at h1
              rw [getElem!_pos L1 i hlt]
              exact List.all_eq_true.1 h1.symm _ (List.getElem_mem hlt)
            obtain ⟨hx0, hx63⟩ := setB_true.1 hset
            obtain ⟨xn, hxn⟩ := Int.eq_ofNat_of_zero_le hx0
            have HXN := Lib.hid hxn
            have hx64 : xn < 64 := by omega
            have HEX : Hid (someK M (xn : Int) M.length = true) := by
              show _ = _
              obtain ⟨k, hk, hs⟩ := HMH.out i hlt
              unfold someK
              refine List.any_eq_true.2 ⟨k, List.mem_range.2 hk, ?_⟩
              rw [HXN.out] at hs
              exact hs
            clear hset hx0 hx63 hxn
            go_wp2_with fail
            go_loopw [20, 21] (fun u v wr => ∃ k : Nat, v = .int .i64 k ∧ k ≤ M.length ∧ u = .bool (someK M (xn : Int) k) ∧ Hid (Below w12.heap.size w12 wr)) (fun _ v _ => M.length - (intOf v).toNat)
            case atStart => exact ⟨0, rfl, Nat.zero_le _, rfl, HBo⟩
            case round =>
              clear HBo
              obtain ⟨wi, rfl⟩ : ∃ wi : World, wi = wr := ⟨_, rfl⟩
              obtain ⟨k, rfl, hk, rfl, HBi⟩ := hrel
              by_cases hlt2 : k < M.length
              · have hkI : (k : Int) < (M.length : Int) := by omega
                obtain ⟨b1, o1, x1, rfl, HX1, hbs1, e1⟩ := (HI1.out.later HBi.out).at i hlt
                have hx1 : x1 = (xn : Int) := HX1.out.symm.trans HXN.out
                subst hx1
                obtain ⟨b2, o2, y2, rfl, HX2, hbs2, e2⟩ := (HIM.out.later HBi.out).at k hlt2
                have hsy : setB y2 = true := by
                  have h1 := HMS.out
                  unfold setsB at h1
                  rw [← HX2.out, getElem!_pos M k hlt2]
                  exact List.all_eq_true.1 h1 _ (List.getElem_mem hlt2)
                obtain ⟨hy0, hy63⟩ := setB_true.1 hsy
                obtain ⟨yn, rfl⟩ := Int.eq_ofNat_of_zero_le hy0
                have hy64 : yn < 64 := by omega
                have HNX : Hid (someK M (xn : Int) (k + 1) = (someK M (xn : Int) k || subB yn xn)) := by
                  show _ = _
                  rw [someK_next, HX2.out]; rfl
                have hsa := sub_and (a := xn) (b := yn) (by omega) (by omega)
                obtain ⟨sb, hsb⟩ : ∃ sb, sb = subB yn xn := ⟨_, rfl⟩
                rw [← hsb] at HNX hsa
                clear hsb hsy hy0 hy63
                obtain ⟨bk, hbk⟩ : ∃ bk, bk = someK M (xn : Int) k := ⟨_, rfl⟩
                rw [← hbk] at HNX ⊢
                clear hbk
                have hk0 : (0 : Int) ≤ (k : Int) := by omega
                have hi0 : (0 : Int) ≤ (i : Int) := by omega
                cases bk
                · go_wp2_with fail
                  go_quiet (fail)
                  go_wp2_with fail
                  go_roundw
                  case rel => exact ⟨k + 1, by go_num, by omega, by rw [HNX.out]; rfl, below_drewN HBi.out _⟩
                  case measure => simp [intOf]; omega
                · go_wp2_with fail
                  go_quiet (fail)
                  go_wp2_with fail
                  go_roundw
                  case rel => exact ⟨k + 1, by go_num, by omega, by rw [HNX.out]; rfl, below_drewN HBi.out _⟩
                  case measure => simp [intOf]; omega
              · obtain rfl : k = M.length := by omega
                rw [HEX.out]
                go_wp2_with fail
                go_roundw
                case rel => exact ⟨i + 1, by go_num, by omega, HBi⟩
                case measure => simp [intOf]; omega
          · obtain rfl : i = L1.length := by omega
            go_wp2_with fail
            go_meet
            case rel => exact HBo
    case rest =>
      obtain ⟨w13, rfl⟩ : ∃ w13 : World, w13 = wc := ⟨_, rfl⟩
      replace HI0 := Lib.hid (HI0.out.later hcut.out)
      replace HID := Lib.hid (HID.out.later hcut.out)
      replace HB := Lib.hid (below_then HB.out hcut.out)
      clear hcut
      cases ok
      · go_wp2_with fail
        go_ret
        exact ⟨rfl, HB.out⟩
      · obtain ⟨-, hd1, hd2⟩ := dual_back HOK.out.symm HP0.out
        have HD1 := Lib.hid hd1
        have HD2 := Lib.hid hd2
        clear hd1 hd2
        go_wp2_with fail
        refine (implDualOf_c _ _ D _ L0 true HD1.out HID.out (by omega) HDF.out).mono ?_
        rintro e w14 ⟨u14, rfl, ho14, hb14⟩
        obtain ⟨aF, cF, rfl⟩ := own_slice ho14
        have HIF : Hid (IC w14 aF L0) := ic_of' (Own.of ho14) rfl
        clear ho14
        replace HI0 := Lib.hid (HI0.out.later hb14)
        replace HID := Lib.hid (HID.out.later hb14)
        replace HB := Lib.hid (below_then HB.out hb14)
        clear hb14
        go_wp2_with fail
        refine (rInts_c _ _ _ _ L0 L0 _ HIF.out HI0.out (by omega) (by omega)).mono ?_
        rintro e w15 ⟨rfl, hb15⟩
        replace HI0 := Lib.hid (HI0.out.later hb15)
        replace HID := Lib.hid (HID.out.later hb15)
        replace HB := Lib.hid (below_then HB.out hb15)
        clear hb15 HIF
        go_wp2_with fail
        go_loopw [24] (fun v wr => ∃ k : Nat, v = .int .i64 k ∧ k ≤ D.length ∧ Hid (Below w15.heap.size w15 wr)) (fun v _ => D.length - (intOf v).toNat)
        case atStart => exact ⟨0, rfl, Nat.zero_le _, Below.refl _ _⟩
        case round =>
          obtain ⟨wo, rfl⟩ : ∃ wo : World, wo = wr := ⟨_, rfl⟩
          obtain ⟨i, rfl, hi, HBo⟩ := hrel
          by_cases hlt : i < D.length
          · have hiI : (i : Int) < (D.length : Int) := by omega
            obtain ⟨b1, o1, x1, rfl, HX1, hbs1, e1⟩ := (HID.out.later HBo.out).at i hlt
            have hpm := HD2.out i hlt
            rw [HX1.out] at hpm
            have HPM := Lib.hid hpm
            have hxf : wfI x1 := by rw [← HX1.out, getElem!_pos D i hlt]; exact HDF.out _ (List.getElem_mem hlt)
            have HXF := Lib.hid hxf
            clear hpm hxf
            go_wp2_with fail
            refine (implMeetsAll_c _ _ L0 x1 _ (HI0.out.later HBo.out) (by omega) HF0.out HXF.out).mono ?_
            rw [HPM.out]
            rintro e w16 ⟨rfl, hb16⟩
            have HB16 := Lib.hid (below_then HBo.out hb16)
            clear hb16
            dsimp only
            go_wp2_with fail
            go_roundw
            case rel => exact ⟨i + 1, by go_num, by omega, HB16⟩
            case measure => simp [intOf]; omega
          · obtain rfl : i = D.length := by omega
            go_wp2_with fail
            go_ret
            exact ⟨rfl, below_then HB.out HBo.out⟩
end Go.Proofs.Ytmilpahggceemaa
