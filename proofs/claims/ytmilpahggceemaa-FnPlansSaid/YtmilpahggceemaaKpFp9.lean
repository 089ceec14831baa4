/- Draws of works. Draws of nodes of works, of plans, and the draws of the laws of works. Printed by dev/mk_wdraw2.py. The draws of the laws of works. Printed by dev/mk_wdraw3.py. The draws of the laws of works, second part. Printed by dev/mk_wdraw4.py. Functions of the laws of works: rMany, rWorks; a struct of works in memory. -/
import Derived.Test.YtmilpahggceemaaKpFp1
import Derived.Test.YtmilpahggceemaaKpFp8
import Derived.Deep.RegionHeld3
import Derived.Deep.DeepCutAuto
import Derived.Test.YtmilpahggceemaaKpFp4
import Derived.Test.YtmilpahggceemaaKpFp5
set_option linter.unusedVariables false
set_option linter.unusedSimpArgs false
namespace Go.Proofs.Ytmilpahggceemaa
open Go.RowKit Go.KD
attribute [local go_sem] later_cell later_frozen
theorem l1Least_c (a b : Int) (w : World) : Calls Try.prog 267 #[.int .i64 a, .int .i64 b] w fun e w' => e = .returned (.int .i64 (min a b)) ∧ w = w' := by
  go_enter Try.func267, Try.ntmps267
  go_wp2
  all_goals (go_ret; exact ⟨ret_int (by omega), rfl⟩)
theorem l1Most_c (a b : Int) (w : World) : Calls Try.prog 268 #[.int .i64 a, .int .i64 b] w fun e w' => e = .returned (.int .i64 (max a b)) ∧ w = w' := by
  go_enter Try.func268, Try.ntmps268
  go_wp2
  all_goals (go_ret; exact ⟨ret_int (by omega), rfl⟩)
theorem pickI_c (c n k : Nat) (ki : Int) (hki : ki = (k : Int)) (hk0 : 0 < k) (hk : k ≤ 10000) (hn : n ≤ 900000) (w : World) (h : Cu c n w) : Calls Try.prog 144 #[.pointer (some ⟨c, 0, none⟩), .int .i64 ki] w (NatP c (n + 2) k w) := by
  subst hki; exact pick_c c n k hk0 hk hn w h
/-- A gate is put into works that a draw makes. -/
theorem l8PutW_c (c n base g : Nat) (sz : Int) (gl : List D4) (bg cg : Nat) (pl : List Int) (vp : Value) (x y z u : Int) (w0 w : World) (h : WB c n base g 54 3 4 w0 w sz (c4 gl) gl.length (.slice (some ⟨bg, 0, none⟩) gl.length cg) pl vp) (hl : gl.length ≤ 100) :
    Calls Try.prog 155 #[.slice (some ⟨bg, 0, none⟩) gl.length cg, .agg #[.int .i64 x, .int .i64 y, .int .i64 z, .int .i64 u]] w fun e w' => ∃ gl' : List D4, ∃ g' c', e = .returned (.slice (some ⟨g', 0, none⟩) gl'.length c') ∧ gl'.length ≤ gl.length + 1 ∧ w'.cell? ⟨g, 1, none⟩ = some (.slice (some ⟨bg, 0, none⟩) gl.length cg) ∧ w'.frozen? ⟨g, 1, none⟩ = false ∧ g < w'.heap.size ∧
      WB c n base g 54 3 4 w0 (w'.setCell ⟨g, 1, none⟩ (.slice (some ⟨g', 0, none⟩) gl'.length c')) sz (c4 gl') gl'.length (.slice (some ⟨g', 0, none⟩) gl'.length c') pl vp := by
  obtain ⟨q1, q2, q3, q4, q5⟩ := own_someP h.rg
  refine (l8PutO_c base bg 0 cg gl.length rfl gl x y z u w h.rg (by have := h.gb; have := h.gz; omega) rfl q1 q5 q2 q3 (by omega)).mono ?_
  rintro e w9 ⟨g9, n9, cp9, rfl, hlen9, ho9, ha9, hb9⟩
  subst hlen9
  have hb := h.below hb9 (Nat.le_refl _)
  exact ⟨putG gl (x, y, z, u), g9, cp9, rfl, putG_len _ _, hb.c1, hb.fz 1 (by omega), hb.gz, h.first hb9 ho9 (by rcases ha9 with h | h; (left; rw [h]; rfl); (right; exact h))⟩
set_option maxRecDepth 100000 in
set_option maxHeartbeats 8000000 in
theorem works_c (c n : Nat) (hn : n ≤ 500000) (w : World) (h : Cu c n w) : Calls Try.prog 143 #[.pointer (some ⟨c, 0, none⟩)] w (WorksP c (n + 1000) w) := by
  obtain ⟨i0, hi, hz0, hz1, hz2⟩ := info_parts infoI
  obtain ⟨s0, si, sz0, sz1, sz2⟩ := info_parts infoA4
  have HC := Lib.hid h
  have hcz := h.lt
  clear h
  obtain ⟨wr0, hwr0⟩ : ∃ wr0, wr0 = w.alloc (.cells #[.int .i64 0, .slice none 0 0, .slice none 0 0] 36) := ⟨_, rfl⟩
  have HWR0 := Lib.hid hwr0
  have HS0 : Hid (wr0.heap.size = w.heap.size + 1) := by show _ = _; rw [hwr0]; simp
  have HCR : Hid (CuW c n w wr0) := by show CuW c n w wr0; rw [hwr0]; exact (CuW.refl HC.out).alloc _
  clear hwr0
  go_enter Try.func143, Try.ntmps143
  go_wp2_with fail
  rw [← HWR0.out]
  have hcr : c < wr0.heap.size := HCR.out.cu.lt
  refine (among_c c n 8 8 _ [4, 5, 3, 6, 2, 8, 1, 12] rfl (by omega) (by omega) (by omega) _ (HCR.out.cu.later ((Below.refl _ _).alloc (Nat.le_refl _) _) hcr) (fun w' hc => ic_litC rfl rfl (by decide) hcr hc HS0.out)).mono ?_
  rintro e w1 ⟨x, rfl, hx, hc1, hu1⟩
  obtain ⟨nn, rfl, hn1, hn12⟩ : ∃ j : Nat, x = j ∧ 1 ≤ j ∧ j ≤ 12 := by simp at hx; exact ⟨x.toNat, by omega, by omega, by omega⟩
  have HW1 : Hid (CuW c (n + 2) wr0 w1) := ((CuW.refl HCR.out.cu).alloc _).trans ⟨hc1, hu1⟩ |>.mono (by omega)
  clear hx hc1 hu1
  go_wp2_with fail
  refine (pick_c c (n + 2) 4 (by omega) (by omega) (by omega) _ HW1.out.cu).mono ?_
  rintro e w2 ⟨r, rfl, hr, hc2, hu2⟩
  have HW2 : Hid (CuW c (n + 4) wr0 w2) := HW1.out.trans ⟨hc2, hu2⟩
  clear hc2 hu2
  obtain ⟨mm, hmm, hm1, hm4⟩ : ∃ mm : Nat, 1 + (r : Int) = (mm : Int) ∧ 1 ≤ mm ∧ mm ≤ 4 := ⟨1 + r, by omega, by omega, by omega⟩
  go_wp2_with fail
  clear hmm
  have HB0 : Hid (WB c (n + 4) wr0.heap.size (w2.heap.size + 1 + 1) 54 3 4 wr0 (((w2.alloc (.cells #[] 54)).alloc (.cells #[] 3)).alloc (.cells #[.int .i64 (nn : Int), .slice (some ⟨w2.heap.size, 0, none⟩) 0 0, .slice (some ⟨w2.heap.size + 1, 0, none⟩) 0 0] 36)) (nn : Int) (c4 []) 0 (.slice (some ⟨w2.heap.size, 0, none⟩) 0 0) [] (.slice (some ⟨w2.heap.size + 1, 0, none⟩) 0 0)) := WB.start HW2.out hcr
  obtain ⟨bg0, hbg0⟩ : ∃ bg0, bg0 = w2.heap.size := ⟨_, rfl⟩
  obtain ⟨g, hg⟩ : ∃ g, g = w2.heap.size + 1 + 1 := ⟨_, rfl⟩
  rw [← hg] at HB0 ⊢
  have HG := Lib.hid hg
  clear HW1 HW2 hg hbg0
  go_loopw [6] (fun v wr => ∃ k : Nat, ∃ gl : List D4, ∃ pl : List Int, ∃ bg cg bp cp, v = .int .i64 k ∧ k ≤ nn ∧ gl.length ≤ k ∧ pl.length = k ∧ Hid (WB c (n + 4 + 20 * k) wr0.heap.size g 54 3 4 wr0 wr (nn : Int) (c4 gl) gl.length (.slice (some ⟨bg, 0, none⟩) gl.length cg) pl (.slice (some ⟨bp, 0, none⟩) pl.length cp))) (fun v _ => nn - (intOf v).toNat)
  case atStart => exact ⟨0, [], [], _, _, _, _, rfl, by omega, Nat.zero_le _, rfl, HB0⟩
  case round =>
    clear HB0
    obtain ⟨wo, rfl⟩ : ∃ wo : World, wo = wr := ⟨_, rfl⟩
    obtain ⟨k, gl, pl, bg, cg, bp, cp, rfl, hk, hgl, hpl, HWB⟩ := hrel
    have HPL := Lib.hid hpl
    clear hpl
    by_cases hlt : k < nn
    · have hkI : (k : Int) < (nn : Int) := by omega
      go_wp2_with fail
      refine (one_c c (n + 4 + 20 * k) 2 (by omega) (by omega) (by omega) _ HWB.out.cu.cu).mono ?_
      rintro e w3 ⟨b3, rfl, hc3, hu3⟩
      have HWB3 := Lib.hid (HWB.out.draw ⟨hc3, hu3⟩)
      clear hc3 hu3 HWB
      go_upto_if 29 with fail
      go_cut [7] (fun s7 wx => ∃ t : Nat, s7 = .int .i64 t ∧ t < 64 ∧ Hid (WB c (n + 4 + 20 * k + 10) wr0.heap.size g 54 3 4 wr0 wx (nn : Int) (c4 gl) gl.length (.slice (some ⟨bg, 0, none⟩) gl.length cg) pl (.slice (some ⟨bp, 0, none⟩) pl.length cp)))
      case first =>
        cases b3
        · go_wp2_with fail
          go_meet
          case rel => exact ⟨0, rfl, by omega, HWB3.out.mono (by omega)⟩
        · go_wp2_with fail
          refine (few_c c (n + 4 + 20 * k + 2) mm (by omega) (by omega) (by omega) _ HWB3.out.cu.cu).mono ?_
          rintro e w4 ⟨t, rfl, ht, hc4, hu4⟩
          have HWB4 := Lib.hid (HWB3.out.draw ⟨hc4, hu4⟩)
          clear hc4 hu4 HWB3
          go_wp2_with fail
          refine (pick_c c (n + 4 + 20 * k + 2 + 6) mm (by omega) (by omega) (by omega) _ HWB4.out.cu.cu).mono ?_
          rintro e w5 ⟨r5, rfl, hr5, hc5, hu5⟩
          have HWB5 := Lib.hid (HWB4.out.draw ⟨hc5, hu5⟩)
          clear hc5 hu5 HWB4
          obtain ⟨p, HP, ep, hp⟩ := shl_at r5 (by omega)
          have hp64 : p < 64 := by rw [HP.out]; exact Nat.pow_lt_pow_right (n := 6) (by omega) (by omega)
          have eo : bits .or .i64 (t : Int) (p : Int) = ((t ||| p : Nat) : Int) := i64_or t p (by omega) (by omega)
          have ht2 : t ||| p < 64 := Nat.or_lt_two_pow (n := 6) ht hp64
          have hr63 : (r5 : Int) < 64 := by omega
          have hr0 : (0 : Int) ≤ (r5 : Int) := by omega
          go_wp2_with fail
          go_meet
          case rel => exact ⟨t ||| p, rfl, ht2, HWB5.out.mono (by omega)⟩
      case rest =>
        clear HWB3
        obtain ⟨w4, rfl⟩ : ∃ w4 : World, w4 = wc := ⟨_, rfl⟩
        obtain ⟨t, rfl, ht, HWB4⟩ := hcut
        have hsz4 := HWB4.out.cu.ch.size
        have c2 := HWB4.out.c2
        have HWA := Lib.hid (HWB4.out.alloc (.cells #[.int .i64 (t : Int)] 3))
        have hplk : pl.length ≤ 12 := by rw [HPL.out]; omega
        go_upto_region 10 with (at_builtin; refine wpList_append_own_at _ rfl _ _ 24 rfl wr0.heap.size 3 i0 (.int .i64 0) 1 8 Try.underlying24 hi hz0 hz1 hz2 rfl (by decide) _ _ _ rfl HWA.out.rp ⟨w4.heap.size, 0, none⟩ 1 1 [.int .i64 (t : Int)] rfl rfl ?_ ?_ ?_ ?_ ?_ ?_; (exact cell_one_new _ _ _); (simp [Value.oneCell']); (unfold maxLen; omega); omega; (simp; omega); intro v' w5 hown' hgrow _ hat; obtain ⟨d1, d2, d3⟩ := HWA.out.far2 hgrow; have HWB5 := Lib.hid (HWA.out.push1 hown' hgrow hat); obtain ⟨bq, cq, hvq, -, -⟩ := own_someS hown' (by omega); subst hvq; clear hown' hgrow hat)
        have HPL5 : Hid ((pl ++ [(t : Int)]).length = k + 1) := by show _ = _; rw [List.length_append, HPL.out]; rfl
        by_cases hk0 : 0 < k
        · have hk0I : (0 : Int) < (k : Int) := by omega
          clear HWA HWB4 c2 d1 d2 d3
          go_wp2_with fail
          refine (few_c c (n + 4 + 20 * k + 10) mm (by omega) (by omega) (by omega) _ HWB5.out.cu.cu).mono ?_
          rintro e w6 ⟨t2, rfl, ht2, hc6, hu6⟩
          have HWB6 := Lib.hid (HWB5.out.draw ⟨hc6, hu6⟩)
          have HWB6d := Lib.hid HWB6.out.drew
          clear hc6 hu6 HWB5
          have e6 := HWB6d.out.c1
          go_upto_region 12 with fail
          have hgl12 : gl.length ≤ 12 := by omega
          go_region_with
            (first
              | (go_at_call 144; (with_reducible refine (pick_c c (n + 4 + 20 * k + 10 + 6) k hk0 (by omega) (by omega) _ HWB6d.out.cu.cu).mono ?_); rintro e w7 ⟨r7, rfl, hr7, hc7, hu7⟩; have HWB7 := Lib.hid (HWB6d.out.draw ⟨hc7, hu7⟩); have e7 := HWB7.out.c1; clear hc7 hu7)
              | (go_at_call 144; (with_reducible refine (pickI_c c (n + 4 + 20 * k + 10 + 6 + 2) 2 _ (by omega) (by omega) (by omega) (by omega) _ HWB7.out.cu.cu).mono ?_); rintro e w8 ⟨r8, rfl, hr8, hc8, hu8⟩; have HWB8 := Lib.hid (HWB7.out.draw ⟨hc8, hu8⟩); have e8 := HWB8.out.c1; clear hc8 hu8)
              | (go_at_call 267; (with_reducible refine (l1Least_c _ _ _).mono ?_); rintro e w9 ⟨rfl, rfl⟩)
              | (go_at_call 155; (with_reducible refine (l8PutW_c c _ _ g _ gl bg cg _ _ _ _ _ _ _ _ HWB8.out (by omega)).mono ?_); rintro e w9 ⟨gl9, g9, cp9, rfl, hgl9, e9, f9, z9, hwb9⟩; have HWB9 := Lib.hid hwb9; clear hwb9))
          all_goals
            go_wp2_with fail
            go_roundw
            case rel => exact ⟨k + 1, gl9, pl ++ [(t : Int)], g9, cp9, bq, cq, by go_num, by omega, by omega, HPL5.out, by rw [List.length_append]; exact HWB9.out.mono (by omega)⟩
            case measure => simp [intOf]; omega
        · obtain rfl : k = 0 := by omega
          go_wp2_with fail
          go_roundw
          case rel => exact ⟨0 + 1, gl, pl ++ [(t : Int)], bg, cg, bq, cq, by go_num, by omega, by omega, HPL5.out, by rw [List.length_append]; exact HWB5.out.mono (by omega)⟩
          case measure => simp [intOf]; omega
    · obtain rfl : k = nn := by omega
      have hplk : pl.length ≤ 12 := by rw [HPL.out]; omega
      go_wp2_with fail
      refine (pick_c c (n + 4 + 20 * k) 6 (by omega) (by omega) (by omega) _ HWB.out.cu.cu).mono ?_
      rintro e w3 ⟨j, rfl, hj, hc3, hu3⟩
      have HWB3 := Lib.hid ((HWB.out.draw ⟨hc3, hu3⟩).mono (n' := n + 400 - 20 * j) (by omega))
      clear hc3 hu3 HWB
      go_wp2_with fail
      go_loopw [9] (fun v wr => ∃ j : Nat, ∃ gl : List D4, ∃ bg cg, v = .int .i64 j ∧ j ≤ 5 ∧ gl.length ≤ 17 - j ∧ Hid (WB c (n + 400 - 20 * j) wr0.heap.size g 54 3 4 wr0 wr (k : Int) (c4 gl) gl.length (.slice (some ⟨bg, 0, none⟩) gl.length cg) pl (.slice (some ⟨bp, 0, none⟩) pl.length cp))) (fun v _ => (intOf v).toNat)
      case atStart => exact ⟨j, gl, bg, cg, rfl, by omega, by omega, HWB3⟩
      case round =>
        clear HWB3 hgl hj
        obtain ⟨wi, rfl⟩ : ∃ wi : World, wi = wr := ⟨_, rfl⟩
        obtain ⟨j, gl, bg, cg, rfl, hj, hgl, HWB⟩ := hrel
        by_cases hgo : 0 < j ∧ 1 < k
        · obtain ⟨hj0, hk1⟩ := hgo
          have hj0I : (0 : Int) < (j : Int) := by omega
          have hk1I : (1 : Int) < (k : Int) := by omega
          go_wp2_with fail
          refine (pick_c c (n + 400 - 20 * j) k (by omega) (by omega) (by omega) _ HWB.out.cu.cu).mono ?_
          rintro e w4 ⟨a4, rfl, ha4, hc4, hu4⟩
          have HWB4 := Lib.hid (HWB.out.draw ⟨hc4, hu4⟩)
          clear hc4 hu4 HWB
          go_wp2_with fail
          refine (pick_c c (n + 400 - 20 * j + 2) k (by omega) (by omega) (by omega) _ HWB4.out.cu.cu).mono ?_
          rintro e w5 ⟨b5, rfl, hb5, hc5, hu5⟩
          have HWB5 := Lib.hid (HWB4.out.draw ⟨hc5, hu5⟩)
          clear hc5 hu5 HWB4
          by_cases hab : a4 = b5
          · have hne : ((a4 : Int) != (b5 : Int)) = false := by simp [hab]
            clear hab
            go_wp2_with fail
            clear hne
            go_roundw
            case rel => exact ⟨j - 1, gl, bg, cg, by go_num, by omega, by omega, HWB5.out.mono (by omega)⟩
            case measure => simp [intOf]; omega
          · have hne : ((a4 : Int) != (b5 : Int)) = true := by simp; omega
            clear hab
            have HWB5d := Lib.hid HWB5.out.drew
            have e5 := HWB5d.out.c1
            go_upto_region 18 with fail
            clear hne
            go_region_with
              (first
                | (go_at_call 267; (with_reducible refine (l1Least_c _ _ _).mono ?_); rintro e w6 ⟨rfl, rfl⟩)
                | (go_at_call 268; (with_reducible refine (l1Most_c _ _ _).mono ?_); rintro e w6 ⟨rfl, rfl⟩)
                | (go_at_call 262; (with_reducible refine (few_c c (n + 400 - 20 * j + 2 + 2) mm (by omega) (by omega) (by omega) _ HWB5d.out.cu.cu).mono ?_); rintro e w7 ⟨r7, rfl, hr7, hc7, hu7⟩; have HWB7 := Lib.hid (HWB5d.out.draw ⟨hc7, hu7⟩); have e7 := HWB7.out.c1; clear hc7 hu7)
                | (go_at_call 144; (with_reducible refine (pickI_c c (n + 400 - 20 * j + 2 + 2 + 6) 2 _ (by omega) (by omega) (by omega) (by omega) _ HWB7.out.cu.cu).mono ?_); rintro e w8 ⟨r8, rfl, hr8, hc8, hu8⟩; have HWB8 := Lib.hid (HWB7.out.draw ⟨hc8, hu8⟩); have e8 := HWB8.out.c1; clear hc8 hu8)
                | (go_at_call 155; (with_reducible refine (l8PutW_c c _ _ g _ gl bg cg _ _ _ _ _ _ _ _ HWB8.out (by omega)).mono ?_); rintro e w9 ⟨gl9, g9, cp9, rfl, hgl9, e9, f9, z9, hwb9⟩; have HWB9 := Lib.hid hwb9; clear hwb9))
            all_goals
              go_wp2_with fail
              go_roundw
              case rel => exact ⟨j - 1, gl9, g9, cp9, by go_num, by omega, by omega, HWB9.out.mono (by omega)⟩
              case measure => simp [intOf]; omega
        · have hgf : ¬ ((0 : Int) < (j : Int)) ∨ ((0 : Int) < (j : Int) ∧ ¬ ((1 : Int) < (k : Int))) := by omega
          have HWBx := Lib.hid (HWB.out.mono (n' := n + 400) (by omega))
          have hgl17 : gl.length ≤ 17 := by omega
          clear HWB hgl hj hgo
          rcases hgf with h1 | ⟨h1, h2⟩
          all_goals
            go_upto_region 19 with fail
            go_wp2_with fail
            refine (pickI_c c (n + 400) 50 _ (by rfl) (by omega) (by omega) (by omega) _ HWBx.out.cu.cu).mono ?_
            rintro e w4 ⟨z, rfl, hz, hc4, hu4⟩
            have HWB4 := Lib.hid (HWBx.out.draw ⟨hc4, hu4⟩)
            have HG4 : Hid (w.heap.size < g ∧ wr0.heap.size ≤ g) := ⟨by have := HWBx.out.gb; rw [HS0.out] at this; omega, HWBx.out.gb⟩
            clear hc4 hu4 HWBx
            obtain ⟨zi, hzi⟩ : ∃ zi : Int, zi = (z : Int) := ⟨_, rfl⟩
            rw [← hzi]
            have hzc : zi = 0 ∨ zi = 1 ∨ zi = 2 ∨ zi = 3 ∨ zi = 4 ∨ 5 ≤ zi := by omega
            clear hzi
            have hgr := HG4.out.1
            rcases hzc with rfl | rfl | rfl | rfl | rfl | h5
            · have hcz4 : c < w4.heap.size := HWB4.out.cu.cu.lt
              go_wp2_with fail
              refine (among_c c (n + 402) 3 3 _ [0, 13, (k : Int) + 1] rfl (by omega) (by omega) (by omega) _ (HWB4.out.cu.cu.later ((Below.refl _ _).alloc (Nat.le_refl _) _) hcz4) (fun w' hc => ic_litC rfl rfl (by simp) hcz4 hc rfl)).mono ?_
              rintro e w5 ⟨x, rfl, hx, hc5, hu5⟩
              have HWB5 := Lib.hid ((HWB4.out.alloc _).draw ⟨hc5, hu5⟩)
              have HWB6 := Lib.hid (HWB5.out.size x)
              have g0 := HWB5.out.c0
              have f0 := HWB5.out.fz 0 (by omega)
              have gz := HWB5.out.gz
              have hxb : 0 ≤ x ∧ x ≤ 13 := by simp at hx; omega
              clear hx hc5 hu5 HWB4
              go_upto_region 33 with fail
              clear g0 f0 gz
              obtain ⟨w6, hw6⟩ : ∃ w6, w6 = w5.setCell ⟨g, 0, none⟩ (.int .i64 x) := ⟨_, rfl⟩
              rw [← hw6] at HWB6 ⊢
              clear hw6 HWB5
              obtain ⟨q0, q1, q2, q3, q4, q5, q6⟩ := res_facts HWR0.out HWB6.out.cu.ch hcz
              have g0 := HWB6.out.c0
              have g1 := HWB6.out.c1
              have g2 := HWB6.out.c2
              have gz := HWB6.out.gz
              obtain ⟨hA, hB⟩ := works_end HWB6.out HCR.out (r := w.heap.size) (by rw [HS0.out]; omega) hcz (Nat.le_refl _) (by omega) (by (try rw [List.length_set]); omega) (.int .i64 x) (.slice (some ⟨bg, 0, none⟩) gl.length cg) (.slice (some ⟨bp, 0, none⟩) pl.length cp)
              have HA := Lib.hid hA
              have HB := Lib.hid hB
              clear hA hB
              go_wp2_with fail
              exact bodyPost_ret (v := .agg #[.int .i64 x, .slice (some ⟨bg, 0, none⟩) gl.length cg, .slice (some ⟨bp, 0, none⟩) pl.length cp]) (by simp [results, Try.results143, go_sem, q0, q1, q2, q3, q4, q5, q6]) rfl ⟨_, ⟨x, gl, pl⟩, rfl, HA.out, by dsimp only; omega, by dsimp only; (try rw [List.length_set]); omega, (by dsimp only; omega), HB.out.mono (by omega)⟩
            · have g1 := HWB4.out.c1
              by_cases hl0 : gl.length = 0
              · have hlf : ¬ ((0 : Int) < (gl.length : Int)) := by omega
                clear hl0
                go_upto_region 33 with fail
                clear g1 hlf
                obtain ⟨q0, q1, q2, q3, q4, q5, q6⟩ := res_facts HWR0.out HWB4.out.cu.ch hcz
                have g0 := HWB4.out.c0
                have g1 := HWB4.out.c1
                have g2 := HWB4.out.c2
                have gz := HWB4.out.gz
                obtain ⟨hA, hB⟩ := works_end HWB4.out HCR.out (r := w.heap.size) (by rw [HS0.out]; omega) hcz (Nat.le_refl _) (by omega) (by (try rw [List.length_set]); omega) (.int .i64 (k : Int)) (.slice (some ⟨bg, 0, none⟩) gl.length cg) (.slice (some ⟨bp, 0, none⟩) pl.length cp)
                have HA := Lib.hid hA
                have HB := Lib.hid hB
                clear hA hB
                go_wp2_with fail
                exact bodyPost_ret (v := .agg #[.int .i64 (k : Int), .slice (some ⟨bg, 0, none⟩) gl.length cg, .slice (some ⟨bp, 0, none⟩) pl.length cp]) (by simp [results, Try.results143, go_sem, q0, q1, q2, q3, q4, q5, q6]) rfl ⟨_, ⟨(k : Int), gl, pl⟩, rfl, HA.out, by dsimp only; omega, by dsimp only; (try rw [List.length_set]); omega, (by dsimp only; omega), HB.out.mono (by omega)⟩
              · have hlf : (0 : Int) < (gl.length : Int) := by omega
                go_wp2_with fail
                refine (pick_c c (n + 402) gl.length (by omega) (by omega) (by omega) _ HWB4.out.cu.cu).mono ?_
                rintro e w5 ⟨kk, rfl, hkk, hc5, hu5⟩
                have HWB5 := Lib.hid (HWB4.out.draw ⟨hc5, hu5⟩)
                have HWB5d := Lib.hid HWB5.out.drew
                have HCB : Hid (c < w5.heap.size) := HWB5.out.cu.cu.lt
                clear hc5 hu5 HWB4 g1 hl0
                have hk0 : (0 : Int) ≤ (kk : Int) := by omega
                have hkI : (kk : Int) < (gl.length : Int) := by omega
                have HKK := Lib.hid hkk
                obtain ⟨y0, y1, hy⟩ : ∃ y0 y1, (gl[kk]!).1 = y0 ∧ (gl[kk]!).2.1 = y1 := ⟨_, _, rfl, rfl⟩
                have HY := Lib.hid hy
                clear hy
                go_upto_region 25 with fail
                go_region_held3 (fun W => W.cell? ⟨g, 1, none⟩ = some (.slice (some ⟨bg, 0, none⟩) gl.length cg) ∧ W.cell? ⟨bg, kk * 4, none⟩ = some (.int .i64 y0) ∧ W.cell? ⟨bg, kk * 4 + 1, none⟩ = some (.int .i64 y1))
                  (first
                    | with_reducible exact HWB5d.out.sgy HKK.out HY.out
                    | with_reducible exact ((HWB5.out.alloc _).drew).sgy HKK.out HY.out
                    | with_reducible exact (((HWB5.out.alloc _).alloc _).drew).sgy HKK.out HY.out
                    | with_reducible exact HWB6.out.sgy HKK.out HY.out
                    | with_reducible exact (HWB6.out.alloc _).sgy HKK.out HY.out
                    | with_reducible exact HWB7.out.sgy HKK.out HY.out
                    | with_reducible exact HWB7.out.sgs HKK.out HY.out)
                  (first
                    | (go_at_call 261; (with_reducible refine (among_c c (n + 404) 3 3 _ [64, -1, 1] ?_ (by omega) (by omega) (by omega) _ (HWB5.out.alloc _).drew.cu.cu ?_).mono ?_); (rfl); (exact fun w' hc => ic_d1 (by rfl) (by rfl) (by simp) HCB.out hc); rintro e w6 ⟨x6, rfl, hx6, hc6, hu6⟩; have HWB6 := Lib.hid ((HWB5.out.alloc _).drew.draw ⟨hc6, hu6⟩); have HC6 : Hid (c < w6.heap.size) := hu6.lt; clear hx6 hc6 hu6)
                    | (go_at_call 261; (with_reducible refine (among_c c (n + 404) 3 3 _ [64, -1, 1] ?_ (by omega) (by omega) (by omega) _ ((HWB5.out.alloc _).alloc _).drew.cu.cu ?_).mono ?_); (rfl); (exact fun w' hc => ic_d2a (by rfl) (by rfl) (by simp) HCB.out hc); rintro e w6 ⟨x6, rfl, hx6, hc6, hu6⟩; have HWB6 := Lib.hid (((HWB5.out.alloc _).alloc _).drew.draw ⟨hc6, hu6⟩); have HLB : Hid (∀ w', Chg c (c + 1) w6 w' → IC w' (some ⟨w5.heap.size + 1, 0, none⟩) [0, 2]) := (fun w' hc => ic_d2b (by rfl) (by rfl) (by simp) HCB.out (hc6.trans hc)); clear hx6 hc6 hu6)
                    | (go_at_call 261; (with_reducible refine (among_c c (n + 404) 3 3 _ [64, -1, 1] ?_ (by omega) (by omega) (by omega) _ ((HWB5.out.alloc _).alloc _).drew.cu.cu ?_).mono ?_); (rfl); (exact fun w' hc => ic_d2b (by rfl) (by rfl) (by simp) HCB.out hc); rintro e w6 ⟨x6, rfl, hx6, hc6, hu6⟩; have HWB6 := Lib.hid (((HWB5.out.alloc _).alloc _).drew.draw ⟨hc6, hu6⟩); have HLB : Hid (∀ w', Chg c (c + 1) w6 w' → IC w' (some ⟨w5.heap.size, 0, none⟩) [0, 2]) := (fun w' hc => ic_d2a (by rfl) (by rfl) (by simp) HCB.out (hc6.trans hc)); clear hx6 hc6 hu6)
                    | (go_at_call 261; (with_reducible refine (among_c c (n + 406) 2 2 _ [0, 2] ?_ (by omega) (by omega) (by omega) _ (HWB6.out.alloc _).cu.cu ?_).mono ?_); (rfl); (exact fun w' hc => ic_litC (by rfl) (by rfl) (by simp) HC6.out hc rfl); rintro e w7 ⟨x7, rfl, hx7, hc7, hu7⟩; have HWB7 := Lib.hid ((HWB6.out.alloc _).draw ⟨hc7, hu7⟩); clear hx7 hc7 hu7; obtain ⟨s1, s2, s3⟩ := HWB7.out.sgy HKK.out HY.out; obtain ⟨⟨t0, t2⟩, ⟨t1, t3⟩, t4, t5, t6, t9, t7, t8⟩ := HWB7.out.fg HKK.out)
                    | (go_at_call 261; (with_reducible refine (among_c c (n + 406) 2 2 _ [0, 2] ?_ (by omega) (by omega) (by omega) _ HWB6.out.cu.cu ?_).mono ?_); (rfl); (exact fun w' hc => HLB.out w' hc); rintro e w7 ⟨x7, rfl, hx7, hc7, hu7⟩; have HWB7 := Lib.hid (HWB6.out.draw ⟨hc7, hu7⟩); clear hx7 hc7 hu7; obtain ⟨s1, s2, s3⟩ := HWB7.out.sgy HKK.out HY.out; obtain ⟨⟨t0, t2⟩, ⟨t1, t3⟩, t4, t5, t6, t9, t7, t8⟩ := HWB7.out.fg HKK.out))
                all_goals
                  clear s1 s2 s3 t0 t1 t2 t3 t4 t5 t6 t9 t7 t8
                  go_upto_region 33 with fail
                  obtain ⟨gl', hgl', hwb8⟩ := HWB7.out.set4 (kk := kk) y0 y1 x6 x7
                  obtain ⟨w8, hw8⟩ : ∃ w8, w8 = (((w7.setCell ⟨bg, kk * 4, none⟩ (.int .i64 y0)).setCell ⟨bg, kk * 4 + 1, none⟩ (.int .i64 y1)).setCell ⟨bg, kk * 4 + 2, none⟩ (.int .i64 x6)).setCell ⟨bg, kk * 4 + 3, none⟩ (.int .i64 x7) := ⟨_, rfl⟩
                  rw [← hw8] at hwb8 ⊢
                  have HWB8 := Lib.hid hwb8
                  have hgl18 : gl'.length ≤ 17 := by omega
                  clear hw8 hwb8 hgl' HWB7 HWB6
                  obtain ⟨q0, q1, q2, q3, q4, q5, q6⟩ := res_facts HWR0.out HWB8.out.cu.ch hcz
                  have g0 := HWB8.out.c0
                  have g1 := HWB8.out.c1
                  have g2 := HWB8.out.c2
                  have gz := HWB8.out.gz
                  obtain ⟨hA, hB⟩ := works_end HWB8.out HCR.out (r := w.heap.size) (by rw [HS0.out]; omega) hcz (Nat.le_refl _) (by omega) (by (try rw [List.length_set]); omega) (.int .i64 (k : Int)) (.slice (some ⟨bg, 0, none⟩) gl'.length cg) (.slice (some ⟨bp, 0, none⟩) pl.length cp)
                  have HA := Lib.hid hA
                  have HB := Lib.hid hB
                  clear hA hB
                  go_wp2_with fail
                  exact bodyPost_ret (v := .agg #[.int .i64 (k : Int), .slice (some ⟨bg, 0, none⟩) gl'.length cg, .slice (some ⟨bp, 0, none⟩) pl.length cp]) (by simp [results, Try.results143, go_sem, q0, q1, q2, q3, q4, q5, q6]) rfl ⟨_, ⟨(k : Int), gl', pl⟩, rfl, HA.out, by dsimp only; omega, by dsimp only; (try rw [List.length_set]); omega, (by dsimp only; omega), HB.out.mono (by omega)⟩
            · have HWB4d := Lib.hid HWB4.out.drew
              have HCB : Hid (c < w4.heap.size) := HWB4.out.cu.cu.lt
              go_upto_region 27 with fail
              go_region_held3 (fun W => W.cell? ⟨g, 2, none⟩ = some (.slice (some ⟨bp, 0, none⟩) pl.length cp))
                (first
                  | with_reducible exact HWB4d.out.c2
                  | with_reducible exact ((HWB4.out.alloc _).drew).c2
                  | with_reducible exact HWB6.out.c2
                  | with_reducible exact (HWB6.out.alloc _).c2
                  | with_reducible exact HWB7.out.c2
                  | with_reducible exact HWB7.out.sps)
                (first
                  | (go_at_call 144; (with_reducible refine (pick_c c (n + 402) k (by omega) (by omega) (by omega) _ HWB4d.out.cu.cu).mono ?_); rintro e w6 ⟨r6, rfl, hr6, hc6, hu6⟩; have HWB6 := Lib.hid (HWB4d.out.draw ⟨hc6, hu6⟩); have HC6 : Hid (c < w6.heap.size) := hu6.lt; have hr6I : (r6 : Int) < (pl.length : Int) := (by have := HPL.out; omega); have hr60 : (0 : Int) ≤ (r6 : Int) := (by omega); have HR6 : Hid (r6 < pl.length) := (by show _ < _; omega); clear hc6 hu6)
                  | (go_at_call 144; (with_reducible refine (pick_c c (n + 402) k (by omega) (by omega) (by omega) _ (HWB4.out.alloc _).drew.cu.cu).mono ?_); rintro e w6 ⟨r6, rfl, hr6, hc6, hu6⟩; have HWB6 := Lib.hid ((HWB4.out.alloc _).drew.draw ⟨hc6, hu6⟩); have hr6I : (r6 : Int) < (pl.length : Int) := (by have := HPL.out; omega); have hr60 : (0 : Int) ≤ (r6 : Int) := (by omega); have HR6 : Hid (r6 < pl.length) := (by show _ < _; omega); have HLB : Hid (∀ w', Chg c (c + 1) w6 w' → IC w' (some ⟨w4.heap.size, 0, none⟩) [64, -1, 63]) := (fun w' hc => ic_d1 (by rfl) (by rfl) (by simp) HCB.out (hc6.trans hc)); clear hc6 hu6)
                  | (go_at_call 261; (with_reducible refine (among_c c (n + 404) 3 3 _ [64, -1, 63] ?_ (by omega) (by omega) (by omega) _ (HWB6.out.alloc _).cu.cu ?_).mono ?_); (rfl); (exact fun w' hc => ic_litC (by rfl) (by rfl) (by simp) HC6.out hc rfl); rintro e w7 ⟨x7, rfl, hx7, hc7, hu7⟩; have HWB7 := Lib.hid ((HWB6.out.alloc _).draw ⟨hc7, hu7⟩); clear hx7 hc7 hu7; obtain ⟨⟨t0, t1⟩, t2, t3, t4⟩ := HWB7.out.fp HR6.out)
                  | (go_at_call 261; (with_reducible refine (among_c c (n + 404) 3 3 _ [64, -1, 63] ?_ (by omega) (by omega) (by omega) _ HWB6.out.cu.cu ?_).mono ?_); (rfl); (exact fun w' hc => HLB.out w' hc); rintro e w7 ⟨x7, rfl, hx7, hc7, hu7⟩; have HWB7 := Lib.hid (HWB6.out.draw ⟨hc7, hu7⟩); clear hx7 hc7 hu7; obtain ⟨⟨t0, t1⟩, t2, t3, t4⟩ := HWB7.out.fp HR6.out))
              all_goals
                clear t0 t1 t2 t3 t4 HWB6 HWB4d HWB4
                go_upto_region 33 with fail
                have HWB8 := Lib.hid (HWB7.out.setp (j := r6) (x := x7))
                obtain ⟨w8, hw8⟩ : ∃ w8, w8 = w7.setCell ⟨bp, r6, none⟩ (.int .i64 x7) := ⟨_, rfl⟩
                rw [← hw8] at HWB8 ⊢
                obtain ⟨pl8, hpl8, hlen8⟩ : ∃ pl8, pl8 = pl.set r6 x7 ∧ pl8.length = pl.length := ⟨_, rfl, List.length_set⟩
                rw [← hpl8] at HWB8
                have hplk8 : pl8.length ≤ 12 := by omega
                clear hw8 hpl8 hlen8 HWB7 hr6I hr60
                obtain ⟨q0, q1, q2, q3, q4, q5, q6⟩ := res_facts HWR0.out HWB8.out.cu.ch hcz
                have g0 := HWB8.out.c0
                have g1 := HWB8.out.c1
                have g2 := HWB8.out.c2
                have gz := HWB8.out.gz
                obtain ⟨hA, hB⟩ := works_end HWB8.out HCR.out (r := w.heap.size) (by rw [HS0.out]; omega) hcz (Nat.le_refl _) (by omega) (by (try rw [List.length_set]); omega) (.int .i64 (k : Int)) (.slice (some ⟨bg, 0, none⟩) gl.length cg) (.slice (some ⟨bp, 0, none⟩) pl8.length cp)
                have HA := Lib.hid hA
                have HB := Lib.hid hB
                clear hA hB
                go_wp2_with fail
                exact bodyPost_ret (v := .agg #[.int .i64 (k : Int), .slice (some ⟨bg, 0, none⟩) gl.length cg, .slice (some ⟨bp, 0, none⟩) pl8.length cp]) (by simp [results, Try.results143, go_sem, q0, q1, q2, q3, q4, q5, q6]) rfl ⟨_, ⟨(k : Int), gl, pl8⟩, rfl, HA.out, by dsimp only; omega, by dsimp only; (try rw [List.length_set]); omega, (by dsimp only; omega), HB.out.mono (by omega)⟩
            · have g1 := HWB4.out.c1
              by_cases hl0 : gl.length = 0
              · have hlf : ¬ ((0 : Int) < (gl.length : Int)) := by omega
                clear hl0
                go_upto_region 33 with fail
                clear g1 hlf
                obtain ⟨q0, q1, q2, q3, q4, q5, q6⟩ := res_facts HWR0.out HWB4.out.cu.ch hcz
                have g0 := HWB4.out.c0
                have g1 := HWB4.out.c1
                have g2 := HWB4.out.c2
                have gz := HWB4.out.gz
                obtain ⟨hA, hB⟩ := works_end HWB4.out HCR.out (r := w.heap.size) (by rw [HS0.out]; omega) hcz (Nat.le_refl _) (by omega) (by (try rw [List.length_set]); omega) (.int .i64 (k : Int)) (.slice (some ⟨bg, 0, none⟩) gl.length cg) (.slice (some ⟨bp, 0, none⟩) pl.length cp)
                have HA := Lib.hid hA
                have HB := Lib.hid hB
                clear hA hB
                go_wp2_with fail
                exact bodyPost_ret (v := .agg #[.int .i64 (k : Int), .slice (some ⟨bg, 0, none⟩) gl.length cg, .slice (some ⟨bp, 0, none⟩) pl.length cp]) (by simp [results, Try.results143, go_sem, q0, q1, q2, q3, q4, q5, q6]) rfl ⟨_, ⟨(k : Int), gl, pl⟩, rfl, HA.out, by dsimp only; omega, by dsimp only; (try rw [List.length_set]); omega, (by dsimp only; omega), HB.out.mono (by omega)⟩
              · have hlf : (0 : Int) < (gl.length : Int) := by omega
                have hlN : 0 < gl.length := by omega
                obtain ⟨y0, y1, y2, y3, d0, d1, d2, d3⟩ := HWB4.out.four hlN
                have gz := HWB4.out.gz
                have bz : bg < w4.heap.size := Own.block_lt HWB4.out.rg rfl
                have wz := HWB4.out.cu.ch.size
                clear hl0
                go_upto_region 30 with fail
                go_region_law ((refine step_append_lies _ (by rfl) _ _ _ (by rfl) wr0.heap.size 54 s0 (.agg #[.int .i64 0, .int .i64 0, .int .i64 0, .int .i64 0]) 4 32 Try.underlying34 si sz0 sz1 sz2 rfl (by decide) _ _ _ (by rfl) ((HWB4.out.alloc _).drew.rg) ⟨w4.heap.size, 0, none⟩ 1 1 (encQ (y0, y1, y2, y3)) (by rfl) (by rfl) (fun j u hu => fourNew w4 _ _ _ _ _ j u hu) (by intro u hu; simp [encQ] at hu; rcases hu with rfl | rfl | rfl | rfl <;> rfl) (by omega) (by unfold maxLen; omega) (by omega) (by simp; omega) (w4.heap.size + 1) (by simp) ?_; intro g9 cp9 w9 hown9 hgrow9 hat9 hlt9; obtain ⟨f1, f2, f3⟩ := (HWB4.out.alloc (.cells #[.int .i64 y0, .int .i64 y1, .int .i64 y2, .int .i64 y3] 54)).drew.far1 hgrow9; have HWB9 := Lib.hid ((HWB4.out.alloc (.cells #[.int .i64 y0, .int .i64 y1, .int .i64 y2, .int .i64 y3] 54)).drew.push4 hown9 hgrow9 (by rcases hat9 with h | h; (left; rw [h]; rfl); (right; rw [h]; simp [Value.ownBlock]))); clear hown9 hgrow9 hat9))
                all_goals
                  clear g1 hlf d0 d1 d2 d3 f1 f2 f3 hlt9 bz gz
                  go_upto_region 33 with fail
                  obtain ⟨gl9, hl9, hc9⟩ : ∃ gl9 : List D4, gl9.length = gl.length + 1 ∧ c4 gl9 = c4 gl ++ encQ (y0, y1, y2, y3) := ⟨gl ++ [(y0, y1, y2, y3)], by simp, c4_append _ _⟩
                  rw [← hc9, ← hl9] at HWB9
                  rw [← hl9]
                  have hgl18 : gl9.length ≤ 18 := by omega
                  obtain ⟨w8, hw8⟩ : ∃ w8, w8 = w9.setCell ⟨g, 1, none⟩ (.slice (some ⟨g9, 0, none⟩) gl9.length cp9) := ⟨_, rfl⟩
                  rw [← hw8] at HWB9 ⊢
                  clear hw8 hl9 hc9 hlN HWB4
                  obtain ⟨q0, q1, q2, q3, q4, q5, q6⟩ := res_facts HWR0.out HWB9.out.cu.ch hcz
                  have g0 := HWB9.out.c0
                  have g1 := HWB9.out.c1
                  have g2 := HWB9.out.c2
                  have gz := HWB9.out.gz
                  obtain ⟨hA, hB⟩ := works_end HWB9.out HCR.out (r := w.heap.size) (by rw [HS0.out]; omega) hcz (Nat.le_refl _) (by omega) (by (try rw [List.length_set]); omega) (.int .i64 (k : Int)) (.slice (some ⟨g9, 0, none⟩) gl9.length cp9) (.slice (some ⟨bp, 0, none⟩) pl.length cp)
                  have HA := Lib.hid hA
                  have HB := Lib.hid hB
                  clear hA hB
                  go_wp2_with fail
                  exact bodyPost_ret (v := .agg #[.int .i64 (k : Int), .slice (some ⟨g9, 0, none⟩) gl9.length cp9, .slice (some ⟨bp, 0, none⟩) pl.length cp]) (by simp [results, Try.results143, go_sem, q0, q1, q2, q3, q4, q5, q6]) rfl ⟨_, ⟨(k : Int), gl9, pl⟩, rfl, HA.out, by dsimp only; omega, by dsimp only; (try rw [List.length_set]); omega, (by dsimp only; omega), HB.out.mono (by omega)⟩
            · obtain ⟨q0, q1, q2, q3, q4, q5, q6⟩ := res_facts HWR0.out HWB4.out.cu.ch hcz
              obtain ⟨-, hB⟩ := works_end HWB4.out HCR.out (r := w.heap.size) (by rw [HS0.out]; omega) hcz (Nat.le_refl _) (by omega) (by omega) (.int .i64 0) (.slice none 0 0) (.slice none 0 0)
              have HB := Lib.hid hB
              clear hB
              go_wp2_with fail
              exact bodyPost_ret (v := .agg #[.int .i64 0, .slice none 0 0, .slice none 0 0]) (by simp [results, Try.results143, go_sem, q0, q1, q2, q3, q4, q5, q6]) rfl ⟨_, ⟨0, [], []⟩, rfl, fun w'' _ => ⟨⟨none, 0, none, 0, rfl, fun j hj => absurd hj (Nat.not_lt_zero j), fun j hj => absurd hj (Nat.not_lt_zero j)⟩, by simp, by simp⟩, by simp, by simp, by simp, HB.out.mono (by omega)⟩
            · have z0 : (zi == 0) = false := by simp; omega
              have z1 : (zi == 1) = false := by simp; omega
              have z2 : (zi == 2) = false := by simp; omega
              have z3 : (zi == 3) = false := by simp; omega
              have z4 : (zi == 4) = false := by simp; omega
              clear h5
              go_upto_region 33 with fail
              clear z0 z1 z2 z3 z4
              obtain ⟨q0, q1, q2, q3, q4, q5, q6⟩ := res_facts HWR0.out HWB4.out.cu.ch hcz
              have g0 := HWB4.out.c0
              have g1 := HWB4.out.c1
              have g2 := HWB4.out.c2
              have gz := HWB4.out.gz
              obtain ⟨hA, hB⟩ := works_end HWB4.out HCR.out (r := w.heap.size) (by rw [HS0.out]; omega) hcz (Nat.le_refl _) (by omega) (by (try rw [List.length_set]); omega) (.int .i64 (k : Int)) (.slice (some ⟨bg, 0, none⟩) gl.length cg) (.slice (some ⟨bp, 0, none⟩) pl.length cp)
              have HA := Lib.hid hA
              have HB := Lib.hid hB
              clear hA hB
              go_wp2_with fail
              exact bodyPost_ret (v := .agg #[.int .i64 (k : Int), .slice (some ⟨bg, 0, none⟩) gl.length cg, .slice (some ⟨bp, 0, none⟩) pl.length cp]) (by simp [results, Try.results143, go_sem, q0, q1, q2, q3, q4, q5, q6]) rfl ⟨_, ⟨(k : Int), gl, pl⟩, rfl, HA.out, by dsimp only; omega, by dsimp only; (try rw [List.length_set]); omega, (by dsimp only; omega), HB.out.mono (by omega)⟩
end Go.Proofs.Ytmilpahggceemaa

namespace Go.KD
open Go.RowKit
/-- A list that a draw gives, as it reads behind further draws. -/
def PlanQ (c n k : Nat) (w : World) (e : Ending) (w' : World) : Prop := ∃ a cp, ∃ L : List Int, e = .returned (.slice a L.length cp) ∧ (∀ w'', Chg 0 w.heap.size w' w'' → IC w'' a L) ∧ L.length ≤ k ∧ (∀ x ∈ L, wfI x) ∧ CuW c n w w'
theorem box_at {w wX : World} {T : TypeId} {a b d : Value} {c n : Nat} (h : CuW c n (w.alloc (.cells #[a, b, d] T)) wX) (hc : c < w.heap.size) : wX.cell? ⟨w.heap.size, 0, none⟩ = some a ∧ wX.cell? ⟨w.heap.size, 1, none⟩ = some b ∧ wX.cell? ⟨w.heap.size, 2, none⟩ = some d ∧ w.heap.size < wX.heap.size := by
  obtain ⟨q0, q1, q2, -, -, -, q6⟩ := res_facts rfl h.ch hc
  exact ⟨q0, q1, q2, q6⟩
theorem CuW.box {w wX : World} {o : Obj} {c n n0 : Nat} (h : CuW c n (w.alloc o) wX) (h0 : Cu c n0 w) : CuW c n w wX := ((CuW.refl h0).alloc o).trans h
theorem own_icC {w w' : World} {base lo k : Nat} {e : TypeId} {a : Option Addr} {cp : Nat} {L : List Int} (h : w.ownsRow base e 1 (.slice a L.length cp) L.length (ints L)) (hc : lo ≤ base) (hch : Chg 0 lo w w') : IC w' a L := ic_of' ((Own.of h).chg hch (.inr hc)) rfl
theorem ic_lit0 {w w' : World} {lo k : Nat} {e : TypeId} {cs : Array Value} {l : List Int} (hcs : cs.toList = ints l) (hn : k = l.length) (hm : k ≤ 100) (hc : lo ≤ w.heap.size) (h : Chg 0 lo (w.alloc (.cells cs e)) w') : IC w' (some ⟨w.heap.size, 0, none⟩) l := by
  subst hn
  have hl := World.ownsRow_lit (base := w.heap.size) (e := e) (size := 1) w cs l.length (Nat.le_refl _) (by unfold maxLen; omega) (by have := congrArg List.length hcs; simp at this; omega)
  rw [hcs] at hl
  exact ic_of ((Own.of hl).chg h (.inr (by omega)))
theorem draw_start {w : World} {a : Option Addr} {n cap : Nat} {o : Obj} {T : TypeId} (hb : BC w a n) (hn : n ≤ 65536) : Cu (w.heap.size + 1) 0 ((w.alloc o).alloc (.cells #[.slice a n cap, .int .i64 0, .int .u64 0] T)) := by
  have h := cu_start (cap := cap) (T := T) (hb.later ((Below.refl _ _).alloc (Nat.le_refl _) o)) hn
  rw [show (w.alloc o).heap.size = w.heap.size + 1 from by simp] at h
  exact h
theorem draw_res {w W : World} {n : Nat} {x0 x1 x2 : Value} {T : TypeId} {o : Obj} (h : CuW (w.heap.size + 1) n ((w.alloc (.cells #[x0, x1, x2] T)).alloc o) W) : W.cell? ⟨w.heap.size, 0, none⟩ = some x0 ∧ W.cell? ⟨w.heap.size, 1, none⟩ = some x1 ∧ W.cell? ⟨w.heap.size, 2, none⟩ = some x2 ∧ W.frozen? ⟨w.heap.size, 0, none⟩ = false ∧ W.frozen? ⟨w.heap.size, 1, none⟩ = false ∧ W.frozen? ⟨w.heap.size, 2, none⟩ = false ∧ w.heap.size < W.heap.size := by
  have hz : w.heap.size < ((w.alloc (.cells #[x0, x1, x2] T)).alloc o).heap.size := by simp; omega
  have hne : w.heap.size < w.heap.size + 1 ∨ w.heap.size + 1 + 1 ≤ w.heap.size := .inl (by omega)
  refine ⟨?_, ?_, ?_, ?_, ?_, ?_, Nat.lt_of_lt_of_le hz h.ch.size⟩
  · rw [h.ch.cell (p := ⟨w.heap.size, 0, none⟩) hz hne]; simp [go_sem]
  · rw [h.ch.cell (p := ⟨w.heap.size, 1, none⟩) hz hne]; simp [go_sem]
  · rw [h.ch.cell (p := ⟨w.heap.size, 2, none⟩) hz hne]; simp [go_sem]
  · rw [chg_frozen h.ch hz hne]; simp [go_sem]
  · rw [chg_frozen h.ch hz hne]; simp [go_sem]
  · rw [chg_frozen h.ch hz hne]; simp [go_sem]
theorem draw_below {w W : World} {n : Nat} {o o' : Obj} (h : CuW (w.heap.size + 1) n ((w.alloc o').alloc o) W) : Below w.heap.size w W :=
  (((Below.refl _ _).alloc (Nat.le_refl _) o').alloc (by simp) o).trans (h.ch.below (by omega) (by simp; omega))
theorem chg_set3 {W : World} {r hi : Nat} (hr : r < hi) (x0 x1 x2 : Value) : Chg 0 hi W (((W.setCell ⟨r, 0, none⟩ x0).setCell ⟨r, 1, none⟩ x1).setCell ⟨r, 2, none⟩ x2) :=
  (((Chg.refl _ _ _).setCell (Nat.zero_le _) hr _).setCell (Nat.zero_le _) hr _).setCell (Nat.zero_le _) hr _
theorem below_set3 {w W : World} {r : Nat} (h : Below w.heap.size w W) (hr : w.heap.size ≤ r) (x0 x1 x2 : Value) : Below w.heap.size w (((W.setCell ⟨r, 0, none⟩ x0).setCell ⟨r, 1, none⟩ x1).setCell ⟨r, 2, none⟩ x2) :=
  Below.setCell (Below.setCell (Below.setCell h hr _) hr _) hr _
theorem ic_chgC {w w' : World} {c b off : Nat} {l : List Int} (h : IC w (some ⟨b, off, none⟩) l) (hb : c < b) (hch : Chg c (c + 1) w w') : IC w' (some ⟨b, off, none⟩) l := by
  intro k hk
  obtain ⟨b', off', e, hbs, hc⟩ := h k hk
  cases e
  exact ⟨b, off, rfl, Nat.lt_of_lt_of_le hbs hch.size, by rw [hch.cell (p := ⟨b, off + k, none⟩) hbs (.inr (by show c + 1 ≤ b; omega))]; exact hc⟩
end Go.KD
namespace Go.Proofs.Ytmilpahggceemaa
open Go.RowKit Go.KD
attribute [local go_sem] later_cell later_frozen
set_option maxRecDepth 100000 in
set_option maxHeartbeats 4000000 in
theorem nodeIn_c (c n : Nat) (hn : n ≤ 600000) (m : Wk) (s1 s2 : Value) (h1 : ∃ a k cp, s1 = .slice a k cp) (h2 : ∃ a k cp, s2 = .slice a k cp) (hs : 0 ≤ m.size ∧ m.size ≤ 13) (w : World) (h : Cu c n w) : Calls Try.prog 157 #[.pointer (some ⟨c, 0, none⟩), .agg #[.int .i64 m.size, s1, s2]] w (SomeI c (n + 4) w) := by
  obtain ⟨a1, k1, cp1, rfl⟩ := h1
  obtain ⟨a2, k2, cp2, rfl⟩ := h2
  have HC := Lib.hid h
  have hcz := h.lt
  clear h
  obtain ⟨hs0, hs1⟩ := hs
  go_enter Try.func157, Try.ntmps157
  go_wp2_with fail
  refine (one_c c n 30 (by omega) (by omega) (by omega) _ ((CuW.refl HC.out).alloc _).cu).mono ?_
  rintro e w1 ⟨b, rfl, hc1, hu1⟩
  have HW1 : Hid (CuW c (n + 2) (w.alloc (.cells #[.int .i64 m.size, .slice a1 k1 cp1, .slice a2 k2 cp2] 36)) w1) := ⟨hc1, hu1⟩
  obtain ⟨q0, q1, q2, q3⟩ := box_at HW1.out hcz
  have hcz1 := hu1.lt
  clear hc1 hu1
  cases b
  · obtain ⟨k, hk, hk1, hk12⟩ : ∃ k : Nat, max (min m.size 12) 1 = (k : Int) ∧ 1 ≤ k ∧ k ≤ 12 := ⟨(max (min m.size 12) 1).toNat, by omega, by omega, by omega⟩
    go_wp2_with (first | (go_at_call 267; (with_reducible refine (l1Least_c _ _ _).mono ?_); rintro e w2 ⟨rfl, rfl⟩) | (go_at_call 268; (with_reducible refine (l1Most_c _ _ _).mono ?_); rintro e w2 ⟨rfl, rfl⟩))
    refine (pick_c c (n + 2) k (by omega) (by omega) (by omega) _ HW1.out.cu).mono ?_
    rintro e w2 ⟨r, rfl, hr, hc2, hu2⟩
    have HW2 : Hid (CuW c (n + 4) (w.alloc (.cells #[.int .i64 m.size, .slice a1 k1 cp1, .slice a2 k2 cp2] 36)) w2) := HW1.out.trans ⟨hc2, hu2⟩
    clear hc2 hu2
    go_wp2_with fail
    go_ret
    exact ⟨(r : Int), rfl, wfI_small (by omega) (by omega), HW2.out.box HC.out⟩
  · go_wp2_with fail
    refine (among_c c (n + 2) 3 3 _ [-1, m.size, 4611686018427387904] rfl (by omega) (by omega) (by omega) _ (HW1.out.alloc _).cu (fun w' hc => ic_litC rfl rfl (by simp) hcz1 hc rfl)).mono ?_
    rintro e w2 ⟨x, rfl, hx, hc2, hu2⟩
    have hxw : wfI x := by
      simp at hx
      rcases hx with rfl | rfl | rfl
      · exact wfI_small (by decide) (by decide)
      · exact wfI_small (by omega) (by omega)
      · exact wfI_small (by decide) (by decide)
    have HW2 : Hid (CuW c (n + 4) (w.alloc (.cells #[.int .i64 m.size, .slice a1 k1 cp1, .slice a2 k2 cp2] 36)) w2) := (HW1.out.alloc _).trans ⟨hc2, hu2⟩
    clear hx hc2 hu2
    go_wp2_with fail
    go_ret
    exact ⟨x, rfl, hxw, HW2.out.box HC.out⟩
set_option maxRecDepth 100000 in
set_option maxHeartbeats 8000000 in
theorem planFor_c (c n : Nat) (hn : n ≤ 600000) (v : Value) (m : Wk) (hs : 0 ≤ m.size ∧ m.size ≤ 13) (w : World) (h : Cu c n w) (hm : ∀ w'', Chg c (c + 1) w w'' → WkAt w'' v m) : Calls Try.prog 265 #[.pointer (some ⟨c, 0, none⟩), v] w (PlanQ c (n + 140) 62 w) := by
  obtain ⟨i0, hi, hz0, hz1, hz2⟩ := info_parts infoI
  obtain ⟨⟨ad, cd, ak, ck, rfl, -, -⟩, -, -⟩ := hm w (Chg.refl _ _ _)
  have HM := Lib.hid hm
  have HC := Lib.hid h
  have hcz := h.lt
  clear h hm
  obtain ⟨hs0, hs1⟩ := hs
  have HWA : Hid (CuW c n (w.alloc (.cells #[.int .i64 m.size, .slice ad m.gates.length cd, .slice ak m.pulls.length ck] 36)) ((w.alloc (.cells #[.int .i64 m.size, .slice ad m.gates.length cd, .slice ak m.pulls.length ck] 36)).alloc (.cells #[] 3))) := (CuW.refl (((CuW.refl HC.out).alloc _).cu)).alloc _
  have HR0 : Hid (((w.alloc (.cells #[.int .i64 m.size, .slice ad m.gates.length cd, .slice ak m.pulls.length ck] 36)).alloc (.cells #[] 3)).ownsRow (w.heap.size + 1) 3 1 (.slice (some ⟨w.heap.size + 1, 0, none⟩) 0 0) 0 (ints [])) := by
    have h := World.ownsRow_lit (base := w.heap.size + 1) (e := 3) (size := 1) (w.alloc (.cells #[.int .i64 m.size, .slice ad m.gates.length cd, .slice ak m.pulls.length ck] 36)) #[] 0 (by simp) (by unfold maxLen; omega) rfl
    rw [show ((w.alloc (.cells #[.int .i64 m.size, .slice ad m.gates.length cd, .slice ak m.pulls.length ck] 36))).heap.size = w.heap.size + 1 from by simp] at h
    exact h
  go_enter Try.func265, Try.ntmps265
  go_wp2_with fail
  cases hB : worksB m
  · refine (l8Works_c _ m _ (HM.out _ (HWA.out.box HC.out).ch)).mono ?_
    rintro e w1 ⟨rfl, hb1⟩
    rw [hB]
    have HW1 : Hid (CuW c n w w1) := (HWA.out.box HC.out).below hb1 (Nat.le_refl _)
    have hcz1 := HW1.out.cu.lt
    clear hb1 hB
    go_wp2_with fail
    go_ret
    exact ⟨_, _, [-1], rfl, fun w'' hch => ic_lit0 rfl rfl (by simp) HW1.out.ch.size hch, by simp, fun x hx => (by simp at hx; rw [hx]; exact wfI_small (by decide) (by decide)), (HW1.out.alloc _).mono (by omega)⟩
  · have OK := Lib.hid (worksB_true.1 hB)
    refine (l8Works_c _ m _ (HM.out _ (HWA.out.box HC.out).ch)).mono ?_
    rintro e w1 ⟨rfl, hb1⟩
    rw [hB]
    have HW1 : Hid (CuW c n (w.alloc (.cells #[.int .i64 m.size, .slice ad m.gates.length cd, .slice ak m.pulls.length ck] 36)) w1) := HWA.out.below hb1 (Nat.le_refl _)
    have HR1 := Lib.hid (own_belowW' HR0.out hb1)
    have hcz1 := HW1.out.cu.lt
    clear hb1 hB HWA HR0
    go_wp2_with fail
    refine (among_c c n 6 6 _ [4, 6, 2, 0, 10, 61] rfl (by omega) (by omega) (by omega) _ (HW1.out.alloc _).cu (fun w' hc => ic_litC rfl rfl (by simp) hcz1 hc rfl)).mono ?_
    rintro e w2 ⟨x, rfl, hx, hc2, hu2⟩
    obtain ⟨j, rfl, hj⟩ : ∃ j : Nat, x = j ∧ j ≤ 61 := by simp at hx; exact ⟨x.toNat, by omega, by omega⟩
    have HW2 : Hid (CuW c (n + 2) (w.alloc (.cells #[.int .i64 m.size, .slice ad m.gates.length cd, .slice ak m.pulls.length ck] 36)) w2) := (HW1.out.alloc _).trans ⟨hc2, hu2⟩
    have HR2 := Lib.hid (own_chgC (own_belowW' HR1.out ((Below.refl _ _).alloc (Nat.le_refl _) _)) hc2 (by omega))
    have hsz1 : (0 : Int) < m.size := by have := OK.out.s1; omega
    clear hx hc2 hu2 HW1 HR1
    go_wp2_with fail
    go_loopw [5, 6, 7, 8] (fun s xv lv jv wr => ∃ j xn ln : Nat, ∃ L : List Int, xv = .int .i64 xn ∧ lv = .int .i64 ln ∧ jv = .int .i64 j ∧ j ≤ 61 ∧ L.length ≤ 61 - j ∧ (xn : Int) < m.size ∧ ln < 64 ∧ Hid (wr.ownsRow (w.heap.size + 1) 3 1 s L.length (ints L)) ∧ Hid (∀ x ∈ L, wfI x) ∧ Hid (CuW c (n + 130 - 2 * j) (w.alloc (.cells #[.int .i64 m.size, .slice ad m.gates.length cd, .slice ak m.pulls.length ck] 36)) wr)) (fun _ _ _ jv _ => (intOf jv).toNat)
    case atStart => exact ⟨j, 0, 0, [], rfl, rfl, rfl, hj, Nat.zero_le _, hsz1, by omega, HR2, fun x hx => (by cases hx), HW2.out.mono (by omega)⟩
    case round =>
      clear HW2 HR2 hj
      obtain ⟨wi, rfl⟩ : ∃ wi : World, wi = wr := ⟨_, rfl⟩
      obtain ⟨j, xn, ln, L, rfl, rfl, rfl, hj, hL, hx, hl, HR, HL, HW⟩ := hrel
      by_cases h0 : 0 < j
      · have h0I : (0 : Int) < (j : Int) := by omega
        obtain ⟨q0, q1, q2, q3⟩ := box_at HW.out hcz
        obtain ⟨A, hA⟩ : ∃ A, A = actsL m xn ln := ⟨_, rfl⟩
        have HA := Lib.hid hA
        clear hA
        go_wp2_with fail
        refine (l8ActsB_c _ m xn ln _ (HM.out _ (HW.out.box HC.out).ch) OK.out hx hl).mono ?_
        rw [← HA.out]
        rintro e w3 ⟨u3, rfl, ⟨b8, off8, c8, rfl, hi8, hc8, hcm8, hb8⟩, hb3⟩
        have hbc : c < b8 := Nat.lt_of_lt_of_le HW.out.cu.lt hb8
        have HI3 := Lib.hid hi8
        have HW3 := Lib.hid (HW.out.below hb3 (Nat.le_refl _))
        have HR3 := Lib.hid (own_belowW' HR.out hb3)
        clear hi8 hb3 hb8 q0 q1 q2 q3 HW HR
        by_cases hA0 : A.length = 0
        · have ht : ((A.length : Int) == 0) = true := by simp [hA0]
          clear hA0
          go_upto_region 12 with fail
          clear ht h0I
          obtain ⟨wi, rfl⟩ : ∃ wi : World, wi = w3 := ⟨_, rfl⟩
          have HR := Lib.hid HR3.out
          have HW := Lib.hid (HW3.out.mono (n' := n + 130) (by omega))
          clear HR3 HW3

          obtain ⟨aL, cL, rfl⟩ := own_slice HR.out
          by_cases hl0 : L.length = 0
          · have hlf : ¬ ((0 : Int) < (L.length : Int)) := by omega
            clear hl0
            go_wp2_with fail
            go_ret
            exact ⟨aL, cL, L, rfl, fun w'' hch => own_icC (k := 0) HR.out (by omega) hch, by omega, HL.out, HW.out.box HC.out |>.mono (by omega)⟩
          · have hlf : (0 : Int) < (L.length : Int) := by omega
            go_wp2_with fail
            refine (one_c c (n + 130) 12 (by omega) (by omega) (by omega) _ HW.out.cu).mono ?_
            rintro e w8 ⟨b8, rfl, hc8, hu8⟩
            have HW8 := Lib.hid (HW.out.trans ⟨hc8, hu8⟩)
            have HR8 := Lib.hid (own_chgC HR.out hc8 (by omega))
            have HC8 : Hid (c < w8.heap.size) := hu8.lt
            clear hc8 hu8 HW HR
            cases b8
            · go_wp2_with fail
              go_ret
              exact ⟨aL, cL, L, rfl, fun w'' hch => own_icC (k := 0) HR8.out (by omega) hch, by omega, HL.out, HW8.out.box HC.out |>.mono (by omega)⟩
            · obtain ⟨gL, cL', hvL, -, -⟩ := own_someS HR8.out (by omega)
              cases hvL
              obtain ⟨q0, q1, q2, q3⟩ := box_at HW8.out hcz
              go_upto_region 13 with fail
              clear hlf
              go_region_held3 (fun W => W.cell? ⟨w.heap.size, 0, none⟩ = some (.int .i64 m.size))
                (first
                  | with_reducible exact (box_at HW8.out.drew hcz).1
                  | with_reducible exact (box_at (HW8.out.alloc _).drew hcz).1
                  | with_reducible exact (box_at HW9.out hcz).1
                  | with_reducible exact (box_at (HW9.out.alloc _) hcz).1
                  | with_reducible exact (box_at HWA.out hcz).1
                  | with_reducible exact (set_ne _ _ (by omega)).trans (box_at HWA.out hcz).1)
                (first
                  | (go_at_call 144; (with_reducible refine (pick_c c (n + 130 + 2) L.length (by omega) (by omega) (by omega) _ HW8.out.drew.cu).mono ?_); rintro e w9 ⟨r9, rfl, hr9, hc9, hu9⟩; have HW9 := Lib.hid (HW8.out.drew.trans ⟨hc9, hu9⟩); have HR9 := Lib.hid (own_chgC (own_belowW' HR8.out (Below.refl _ _).drew) hc9 (by omega)); have HC9 : Hid (c < w9.heap.size) := hu9.lt; have hr9I : (r9 : Int) < (L.length : Int) := (by omega); have hr90 : (0 : Int) ≤ (r9 : Int) := (by omega); clear hc9 hu9)
                  | (go_at_call 144; (with_reducible refine (pick_c c (n + 130 + 2) L.length (by omega) (by omega) (by omega) _ (HW8.out.alloc _).drew.cu).mono ?_); rintro e w9 ⟨r9, rfl, hr9, hc9, hu9⟩; have HW9 := Lib.hid ((HW8.out.alloc _).drew.trans ⟨hc9, hu9⟩); have HR9 := Lib.hid (own_chgC (own_belowW' HR8.out (((Below.refl _ _).alloc (Nat.le_refl _) _).drew)) hc9 (by omega)); have hr9I : (r9 : Int) < (L.length : Int) := (by omega); have hr90 : (0 : Int) ≤ (r9 : Int) := (by omega); have HLB : Hid (∀ w', Chg c (c + 1) w9 w' → IC w' (some ⟨w8.heap.size, 0, none⟩) [-1, 0, 1, -2, m.size]) := (fun w' hc => ic_d1 (by rfl) (by rfl) (by simp) HC8.out (hc9.trans hc)); clear hc9 hu9)
                  | (go_at_call 261; (with_reducible refine (among_c c (n + 130 + 2 + 2) 5 5 _ [-1, 0, 1, -2, m.size] ?_ (by omega) (by omega) (by omega) _ (HW9.out.alloc _).cu ?_).mono ?_); (rfl); (exact fun w' hc => ic_litC (by rfl) (by rfl) (by simp) HC9.out hc rfl); rintro e wA ⟨xA, rfl, hxA, hcA, huA⟩; have HWA := Lib.hid ((HW9.out.alloc _).trans ⟨hcA, huA⟩); have HRA := Lib.hid (own_chgC (HR9.out.alloc _) hcA (by omega)); have HXA := Lib.hid hxA; clear hxA hcA huA; obtain ⟨⟨t0, t1⟩, t2⟩ := own_cell HRA.out r9 (by omega); have t3 := Own.block_lt HRA.out rfl; have hlo := own_block_lo HRA.out (g := gL) rfl)
                  | (go_at_call 261; (with_reducible refine (among_c c (n + 130 + 2 + 2) 5 5 _ [-1, 0, 1, -2, m.size] ?_ (by omega) (by omega) (by omega) _ HW9.out.cu ?_).mono ?_); (rfl); (exact fun w' hc => HLB.out w' hc); rintro e wA ⟨xA, rfl, hxA, hcA, huA⟩; have HWA := Lib.hid (HW9.out.trans ⟨hcA, huA⟩); have HRA := Lib.hid (own_chgC HR9.out hcA (by omega)); have HXA := Lib.hid hxA; clear hxA hcA huA; obtain ⟨⟨t0, t1⟩, t2⟩ := own_cell HRA.out r9 (by omega); have t3 := Own.block_lt HRA.out rfl; have hlo := own_block_lo HRA.out (g := gL) rfl))
              all_goals
                clear t0 t1 t2 t3 q0 q1 q2 q3
                go_wp2_with fail
                go_ret
                have hst := (own_store1 HRA.out r9 xA).1
                refine ⟨some ⟨gL, 0, none⟩, cL, L.set r9 xA, by rw [List.length_set]; rfl, fun w'' hch => own_icC (k := 0) (by rw [List.length_set]; exact hst) (by omega) hch, by rw [List.length_set]; omega, fun x hx => ?_, (cuw_set HWA.out (a := ⟨gL, r9, none⟩) (by show c < gL; omega) (by show _ ≤ gL; simp; omega) _).box HC.out |>.mono (by omega)⟩
                rcases List.mem_or_eq_of_mem_set hx with hx | hx
                · exact HL.out x hx
                · subst hx
                  have h2 := HXA.out
                  simp at h2
                  rcases h2 with rfl | rfl | rfl | rfl | rfl
                  · exact wfI_small (by decide) (by decide)
                  · exact wfI_small (by decide) (by decide)
                  · exact wfI_small (by decide) (by decide)
                  · exact wfI_small (by decide) (by decide)
                  · exact wfI_small (by omega) (by omega)
        · have ht : ((A.length : Int) == 0) = false := beq_eq_false_iff_ne.2 (by omega)
          have hA1 : A.length ≤ 41 := by rw [HA.out]; exact actsL_leS m xn ln
          go_wp2_with fail
          clear ht
          refine (pick_c c (n + 130 - 2 * j) A.length (by omega) (by omega) (by omega) _ HW3.out.cu).mono ?_
          rintro e w4 ⟨r, rfl, hr, hc4, hu4⟩
          have HW4 := Lib.hid (HW3.out.trans ⟨hc4, hu4⟩)
          have HR4 := Lib.hid (own_chgC HR3.out hc4 (by omega))
          obtain ⟨b9, off9, av, hb9, HX, hbs9, e9⟩ := (ic_chgC HI3.out hbc hc4).at r hr
          cases hb9
          have hrI : (r : Int) < (A.length : Int) := by omega
          have hmem : av ∈ actsL m (xn : Nat) (ln : Nat) := by rw [← HA.out, ← HX.out, getElem!_pos A r hr]; exact List.getElem_mem hr
          have hav : wfI av := by
            have := act_range OK.out hx (by rw [hasI_iff]; exact hmem)
            rcases this with rfl | ⟨k0, k1⟩
            · exact wfI_small (by decide) (by decide)
            · exact wfI_small (by omega) (by omega)
          obtain ⟨y, k, hd, hy, hk, -⟩ := do_nat OK.out hx hl hmem
          have HD := Lib.hid hd
          have HAV := Lib.hid hav
          obtain ⟨q0, q1, q2, q3⟩ := box_at HW4.out hcz
          clear hc4 hu4 HW3 HR3 hd hav hmem
          go_wp2_with fail
          refine (l8Do_c _ m xn ln av _ (HM.out _ (HW4.out.box HC.out).ch) OK.out hx hl).mono ?_
          rw [HD.out]
          rintro e w5 ⟨rfl, hb5⟩
          have HW5 := Lib.hid (HW4.out.below hb5 (Nat.le_refl _))
          have HR5 := Lib.hid (own_belowW' HR4.out hb5)
          have hz5 := HW5.out.ch.size
          have hz6 : w.heap.size + 1 ≤ w5.heap.size := by simpa using hz5
          clear hb5 q0 q1 q2 q3 e9 HW4 HR4 hz5
          dsimp only
          go_wp2_with (at_builtin; refine wpList_append_own _ rfl _ _ 24 rfl (w.heap.size + 1) 3 i0 (.int .i64 0) 1 8 Try.underlying24 hi hz0 hz1 hz2 rfl (by decide) _ _ _ rfl (HR5.out.alloc _) ⟨w5.heap.size, 0, none⟩ 1 1 [.int .i64 av] rfl rfl ?_ ?_ ?_ ?_ ?_ ?_; (exact cell_one_new _ _ _); (simp [Value.oneCell']); (unfold maxLen; omega); omega; (simp; omega); intro v' w6 hown' hgrow _)
          go_roundw
          case rel => exact ⟨j - 1, y, k, L ++ [av], rfl, rfl, by go_num, by omega, by rw [List.length_append]; simp; omega, hy, hk, by rw [ints_snoc, List.length_append]; exact hown', fun x hx => (by
            rw [List.mem_append] at hx
            rcases hx with hx | hx
            · exact HL.out x hx
            · have : x = av := by simpa using hx
              rw [this]; exact HAV.out), ((HW5.out.alloc _).grown hgrow (fun g hg => own_block_lo HR5.out hg) (by simp) (by simp; omega)).mono (by omega)⟩
          case measure => simp [intOf]; omega
      · obtain rfl : j = 0 := by omega
        obtain ⟨aL, cL, rfl⟩ := own_slice HR.out
        by_cases hl0 : L.length = 0
        · have hlf : ¬ ((0 : Int) < (L.length : Int)) := by omega
          clear hl0
          go_wp2_with fail
          go_ret
          exact ⟨aL, cL, L, rfl, fun w'' hch => own_icC (k := 0) HR.out (by omega) hch, by omega, HL.out, HW.out.box HC.out |>.mono (by omega)⟩
        · have hlf : (0 : Int) < (L.length : Int) := by omega
          go_wp2_with fail
          refine (one_c c (n + 130) 12 (by omega) (by omega) (by omega) _ HW.out.cu).mono ?_
          rintro e w8 ⟨b8, rfl, hc8, hu8⟩
          have HW8 := Lib.hid (HW.out.trans ⟨hc8, hu8⟩)
          have HR8 := Lib.hid (own_chgC HR.out hc8 (by omega))
          have HC8 : Hid (c < w8.heap.size) := hu8.lt
          clear hc8 hu8 HW HR
          cases b8
          · go_wp2_with fail
            go_ret
            exact ⟨aL, cL, L, rfl, fun w'' hch => own_icC (k := 0) HR8.out (by omega) hch, by omega, HL.out, HW8.out.box HC.out |>.mono (by omega)⟩
          · obtain ⟨gL, cL', hvL, -, -⟩ := own_someS HR8.out (by omega)
            cases hvL
            obtain ⟨q0, q1, q2, q3⟩ := box_at HW8.out hcz
            go_upto_region 13 with fail
            clear hlf
            go_region_held3 (fun W => W.cell? ⟨w.heap.size, 0, none⟩ = some (.int .i64 m.size))
              (first
                | with_reducible exact (box_at HW8.out.drew hcz).1
                | with_reducible exact (box_at (HW8.out.alloc _).drew hcz).1
                | with_reducible exact (box_at HW9.out hcz).1
                | with_reducible exact (box_at (HW9.out.alloc _) hcz).1
                | with_reducible exact (box_at HWA.out hcz).1
                | with_reducible exact (set_ne _ _ (by omega)).trans (box_at HWA.out hcz).1)
              (first
                | (go_at_call 144; (with_reducible refine (pick_c c (n + 130 + 2) L.length (by omega) (by omega) (by omega) _ HW8.out.drew.cu).mono ?_); rintro e w9 ⟨r9, rfl, hr9, hc9, hu9⟩; have HW9 := Lib.hid (HW8.out.drew.trans ⟨hc9, hu9⟩); have HR9 := Lib.hid (own_chgC (own_belowW' HR8.out (Below.refl _ _).drew) hc9 (by omega)); have HC9 : Hid (c < w9.heap.size) := hu9.lt; have hr9I : (r9 : Int) < (L.length : Int) := (by omega); have hr90 : (0 : Int) ≤ (r9 : Int) := (by omega); clear hc9 hu9)
                | (go_at_call 144; (with_reducible refine (pick_c c (n + 130 + 2) L.length (by omega) (by omega) (by omega) _ (HW8.out.alloc _).drew.cu).mono ?_); rintro e w9 ⟨r9, rfl, hr9, hc9, hu9⟩; have HW9 := Lib.hid ((HW8.out.alloc _).drew.trans ⟨hc9, hu9⟩); have HR9 := Lib.hid (own_chgC (own_belowW' HR8.out (((Below.refl _ _).alloc (Nat.le_refl _) _).drew)) hc9 (by omega)); have hr9I : (r9 : Int) < (L.length : Int) := (by omega); have hr90 : (0 : Int) ≤ (r9 : Int) := (by omega); have HLB : Hid (∀ w', Chg c (c + 1) w9 w' → IC w' (some ⟨w8.heap.size, 0, none⟩) [-1, 0, 1, -2, m.size]) := (fun w' hc => ic_d1 (by rfl) (by rfl) (by simp) HC8.out (hc9.trans hc)); clear hc9 hu9)
                | (go_at_call 261; (with_reducible refine (among_c c (n + 130 + 2 + 2) 5 5 _ [-1, 0, 1, -2, m.size] ?_ (by omega) (by omega) (by omega) _ (HW9.out.alloc _).cu ?_).mono ?_); (rfl); (exact fun w' hc => ic_litC (by rfl) (by rfl) (by simp) HC9.out hc rfl); rintro e wA ⟨xA, rfl, hxA, hcA, huA⟩; have HWA := Lib.hid ((HW9.out.alloc _).trans ⟨hcA, huA⟩); have HRA := Lib.hid (own_chgC (HR9.out.alloc _) hcA (by omega)); have HXA := Lib.hid hxA; clear hxA hcA huA; obtain ⟨⟨t0, t1⟩, t2⟩ := own_cell HRA.out r9 (by omega); have t3 := Own.block_lt HRA.out rfl; have hlo := own_block_lo HRA.out (g := gL) rfl)
                | (go_at_call 261; (with_reducible refine (among_c c (n + 130 + 2 + 2) 5 5 _ [-1, 0, 1, -2, m.size] ?_ (by omega) (by omega) (by omega) _ HW9.out.cu ?_).mono ?_); (rfl); (exact fun w' hc => HLB.out w' hc); rintro e wA ⟨xA, rfl, hxA, hcA, huA⟩; have HWA := Lib.hid (HW9.out.trans ⟨hcA, huA⟩); have HRA := Lib.hid (own_chgC HR9.out hcA (by omega)); have HXA := Lib.hid hxA; clear hxA hcA huA; obtain ⟨⟨t0, t1⟩, t2⟩ := own_cell HRA.out r9 (by omega); have t3 := Own.block_lt HRA.out rfl; have hlo := own_block_lo HRA.out (g := gL) rfl))
            all_goals
              clear t0 t1 t2 t3 q0 q1 q2 q3
              go_wp2_with fail
              go_ret
              have hst := (own_store1 HRA.out r9 xA).1
              refine ⟨some ⟨gL, 0, none⟩, cL, L.set r9 xA, by rw [List.length_set]; rfl, fun w'' hch => own_icC (k := 0) (by rw [List.length_set]; exact hst) (by omega) hch, by rw [List.length_set]; omega, fun x hx => ?_, (cuw_set HWA.out (a := ⟨gL, r9, none⟩) (by show c < gL; omega) (by show _ ≤ gL; simp; omega) _).box HC.out |>.mono (by omega)⟩
              rcases List.mem_or_eq_of_mem_set hx with hx | hx
              · exact HL.out x hx
              · subst hx
                have h2 := HXA.out
                simp at h2
                rcases h2 with rfl | rfl | rfl | rfl | rfl
                · exact wfI_small (by decide) (by decide)
                · exact wfI_small (by decide) (by decide)
                · exact wfI_small (by decide) (by decide)
                · exact wfI_small (by decide) (by decide)
                · exact wfI_small (by omega) (by omega)
end Go.Proofs.Ytmilpahggceemaa

namespace Go.KD
open Go.RowKit
theorem box_in {w wX : World} {T : TypeId} {a b d : Value} {c n : Nat} (h : CuW c n (w.alloc (.cells #[a, b, d] T)) wX) (hc : c < w.heap.size) : wX.cell? ⟨w.heap.size, 0, none⟩ = some a ∧ wX.cell? ⟨w.heap.size, 1, none⟩ = some b ∧ wX.cell? ⟨w.heap.size, 2, none⟩ = some d :=
  ⟨(box_at h hc).1, (box_at h hc).2.1, (box_at h hc).2.2.1⟩
theorem box_set {w wX : World} {T : TypeId} {a b d x0 x1 x2 : Value} {c n r : Nat} (h : CuW c n (w.alloc (.cells #[a, b, d] T)) wX) (hc : c < w.heap.size) (hr : r < w.heap.size) : (((wX.setCell ⟨r, 0, none⟩ x0).setCell ⟨r, 1, none⟩ x1).setCell ⟨r, 2, none⟩ x2).cell? ⟨w.heap.size, 0, none⟩ = some a ∧ (((wX.setCell ⟨r, 0, none⟩ x0).setCell ⟨r, 1, none⟩ x1).setCell ⟨r, 2, none⟩ x2).cell? ⟨w.heap.size, 1, none⟩ = some b ∧ (((wX.setCell ⟨r, 0, none⟩ x0).setCell ⟨r, 1, none⟩ x1).setCell ⟨r, 2, none⟩ x2).cell? ⟨w.heap.size, 2, none⟩ = some d := by
  obtain ⟨h0, h1, h2⟩ := box_in h hc
  have hne : r ≠ w.heap.size := by omega
  refine ⟨?_, ?_, ?_⟩
  · rw [set_ne _ _ hne, set_ne _ _ hne, set_ne _ _ hne]; exact h0
  · rw [set_ne _ _ hne, set_ne _ _ hne, set_ne _ _ hne]; exact h1
  · rw [set_ne _ _ hne, set_ne _ _ hne, set_ne _ _ hne]; exact h2
theorem wfI_wrap (x : Int) : wfI (IntKind.i64.wrap x) := by
  have h := wrap64_wf x
  have e : IntKind.i64.wrap x = wrap64 x := by rw [IntKind.wrap_i64]; unfold wrap64; omega
  rw [e]; exact h
/-- What a draw of works with numbers gives. -/
def DWk (w w' : World) (v : Value) (m : Wk) : Prop := (∀ w'', Chg 0 w.heap.size w' w'' → WkAt w'' v m) ∧ (0 ≤ m.size ∧ m.size ≤ 13) ∧ m.gates.length ≤ 40 ∧ m.pulls.length ≤ 40 ∧ Below w.heap.size w w'
theorem res_b {w W : World} {x0 x1 x2 : Value} {T : TypeId} (h : Below (w.heap.size + 1) (w.alloc (.cells #[x0, x1, x2] T)) W) : W.cell? ⟨w.heap.size, 0, none⟩ = some x0 ∧ W.cell? ⟨w.heap.size, 1, none⟩ = some x1 ∧ W.cell? ⟨w.heap.size, 2, none⟩ = some x2 ∧ W.frozen? ⟨w.heap.size, 0, none⟩ = false ∧ W.frozen? ⟨w.heap.size, 1, none⟩ = false ∧ W.frozen? ⟨w.heap.size, 2, none⟩ = false ∧ w.heap.size < W.heap.size := by
  refine ⟨?_, ?_, ?_, ?_, ?_, ?_, by have := h.size; simp at this; omega⟩
  · rw [h.cell (p := ⟨w.heap.size, 0, none⟩) (by simp)]; simp [go_sem]
  · rw [h.cell (p := ⟨w.heap.size, 1, none⟩) (by simp)]; simp [go_sem]
  · rw [h.cell (p := ⟨w.heap.size, 2, none⟩) (by simp)]; simp [go_sem]
  · rw [h.frozen (p := ⟨w.heap.size, 0, none⟩) (by simp)]; simp [go_sem]
  · rw [h.frozen (p := ⟨w.heap.size, 1, none⟩) (by simp)]; simp [go_sem]
  · rw [h.frozen (p := ⟨w.heap.size, 2, none⟩) (by simp)]; simp [go_sem]
end Go.KD
namespace Go.Proofs.Ytmilpahggceemaa
open Go.RowKit Go.KD
attribute [local go_sem] later_cell later_frozen
set_option maxHeartbeats 4000000 in
theorem drawTurnLevers_c (a : Option Addr) (n cap : Nat) (w : World) (hb : BC w a n) (hn : n ≤ 65536) : Calls Try.prog 31 #[.slice a n cap] w fun e w' => ∃ v, ∃ m : Wk, ∃ x : Int, e = .returned (.tuple #[v, .int .i64 x]) ∧ DWk w w' v m ∧ wfI x := by
  have HC := Lib.hid (draw_start (cap := cap) (o := .cells #[.int .i64 0, .slice none 0 0, .slice none 0 0] 36) (T := 98) hb hn)
  clear hb
  go_enter Try.func31, Try.ntmps31
  go_wp2_with fail
  refine (works_c (w.heap.size + 1) 0 (by omega) _ HC.out).mono ?_
  rintro e w2 ⟨v, m, rfl, hst, hg, hp, hs, hW⟩
  have HW := Lib.hid hW
  obtain ⟨⟨ad, cd, ak, ck, rfl, -, -⟩, -, -⟩ := hst _ (Chg.refl _ _ _)
  have HST := Lib.hid hst
  clear hst hW
  go_wp2_with fail
  refine (colours_c _ 1000 (by omega) _ HW.out.cu).mono ?_
  rintro e w3 ⟨x, rfl, hx, hW3⟩
  have HW3 := Lib.hid (HW.out.trans hW3)
  have HCH := Lib.hid hW3.ch
  obtain ⟨q0, q1, q2, q3, q4, q5, q6⟩ := draw_res HW3.out
  have HX := Lib.hid hx
  clear hx hW3
  go_wp2_with fail
  exact bodyPost_ret (v := .tuple #[.agg #[.int .i64 m.size, .slice ad m.gates.length cd, .slice ak m.pulls.length ck], .int .i64 x]) (by simp [results, Try.results31, go_sem, q0, q1, q2, q3, q4, q5, q6]) rfl ⟨_, m, x, rfl, ⟨fun w'' hch => HST.out _ (((HCH.out.mono (Nat.zero_le _) (by simp)).trans (chg_set3 (by simp; omega) _ _ _)).trans (hch.mono (Nat.le_refl _) (by simp; omega))), hs, hg, hp, below_set3 (draw_below HW3.out) (Nat.le_refl _) _ _ _⟩, HX.out⟩
set_option maxHeartbeats 4000000 in
theorem drawIsWorks_c (a : Option Addr) (n cap : Nat) (w : World) (hb : BC w a n) (hn : n ≤ 65536) : Calls Try.prog 175 #[.slice a n cap] w fun e w' => ∃ v, ∃ m : Wk, e = .returned v ∧ DWk w w' v m := by
  have HC := Lib.hid (draw_start (cap := cap) (o := .cells #[.int .i64 0, .slice none 0 0, .slice none 0 0] 36) (T := 98) hb hn)
  clear hb
  go_enter Try.func175, Try.ntmps175
  go_wp2_with fail
  refine (works_c (w.heap.size + 1) 0 (by omega) _ HC.out).mono ?_
  rintro e w2 ⟨v, m, rfl, hst, hg, hp, hs, hW⟩
  have HW := Lib.hid hW
  obtain ⟨⟨ad, cd, ak, ck, rfl, -, -⟩, -, -⟩ := hst _ (Chg.refl _ _ _)
  have HST := Lib.hid hst
  clear hst hW
  obtain ⟨q0, q1, q2, q3, q4, q5, q6⟩ := draw_res HW.out
  go_wp2_with fail
  exact bodyPost_ret (v := .agg #[.int .i64 m.size, .slice ad m.gates.length cd, .slice ak m.pulls.length ck]) (by simp [results, Try.results175, go_sem, q0, q1, q2, q3, q4, q5, q6]) rfl ⟨_, m, rfl, ⟨fun w'' hch => HST.out _ ((chg_set3 (by simp; omega) _ _ _).trans (hch.mono (Nat.le_refl _) (by simp; omega))), hs, hg, hp, below_set3 (draw_below HW.out) (Nat.le_refl _) _ _ _⟩⟩
set_option maxHeartbeats 4000000 in
theorem drawFirstPlan_c (a : Option Addr) (n cap : Nat) (w : World) (hb : BC w a n) (hn : n ≤ 65536) : Calls Try.prog 45 #[.slice a n cap] w fun e w' => ∃ v, ∃ m : Wk, e = .returned v ∧ DWk w w' v m := by
  have HBC : Hid (BC (w.alloc (.cells #[.int .i64 0, .slice none 0 0, .slice none 0 0] 36)) a n) := hb.later ((Below.refl _ _).alloc (Nat.le_refl _) _)
  clear hb
  go_enter Try.func45, Try.ntmps45
  go_wp2_with fail
  refine (drawIsWorks_c a n cap _ HBC.out hn).mono ?_
  rintro e w2 ⟨v, m, rfl, hst, hs, hg, hp, hB⟩
  rw [show (w.alloc (.cells #[.int .i64 0, .slice none 0 0, .slice none 0 0] 36)).heap.size = w.heap.size + 1 from by simp] at hst hB
  obtain ⟨⟨ad, cd, ak, ck, rfl, -, -⟩, -, -⟩ := hst _ (Chg.refl _ _ _)
  obtain ⟨q0, q1, q2, q3, q4, q5, q6⟩ := res_b hB
  have HST := Lib.hid hst
  have HB : Hid (Below w.heap.size w w2) := ((Below.refl _ _).alloc (Nat.le_refl _) _).trans (hB.mono (by omega))
  clear hst hB
  go_wp2_with fail
  exact bodyPost_ret (v := .agg #[.int .i64 m.size, .slice ad m.gates.length cd, .slice ak m.pulls.length ck]) (by simp [results, Try.results45, go_sem, q0, q1, q2, q3, q4, q5, q6]) rfl ⟨_, m, rfl, fun w'' hch => HST.out _ ((chg_set3 (by omega) _ _ _).trans (hch.mono (Nat.le_refl _) (by omega))), hs, hg, hp, below_set3 HB.out (Nat.le_refl _) _ _ _⟩
end Go.Proofs.Ytmilpahggceemaa

namespace Go.Proofs.Ytmilpahggceemaa
open Go.RowKit Go.KD
attribute [local go_sem] later_cell later_frozen
set_option maxRecDepth 100000 in
set_option maxHeartbeats 8000000 in
theorem drawIsPlan_c (a : Option Addr) (n cap : Nat) (w : World) (hb : BC w a n) (hn : n ≤ 65536) : Calls Try.prog 139 #[.slice a n cap] w fun e w' => ∃ v, ∃ m : Wk, ∃ ap cp, ∃ L : List Int, e = .returned (.tuple #[v, .slice ap L.length cp]) ∧ DWk w w' v m ∧ (∀ w'', Chg 0 w.heap.size w' w'' → IC w'' ap L) ∧ L.length ≤ 62 ∧ ∀ x ∈ L, wfI x := by
  have HC := Lib.hid (draw_start (cap := cap) (o := .cells #[.int .i64 0, .slice none 0 0, .slice none 0 0] 36) (T := 98) hb hn)
  clear hb
  go_enter Try.func139, Try.ntmps139
  go_wp2_with fail
  refine (works_c (w.heap.size + 1) 0 (by omega) _ HC.out).mono ?_
  rintro e w2 ⟨v, m, rfl, hst, hg, hp, hs, hW⟩
  have HW := Lib.hid hW
  obtain ⟨⟨ad, cd, ak, ck, rfl, -, -⟩, -, -⟩ := hst _ (Chg.refl _ _ _)
  have HST := Lib.hid hst
  have HZ2 : Hid (w.heap.size + 1 < w2.heap.size) := HW.out.cu.lt
  have HZR : Hid (w.heap.size < w2.heap.size) := by have := HZ2.out; show _ < _; omega
  clear hst hW
  have HB0 : Hid (CuW (w.heap.size + 1) 1000 (w2.alloc (.cells #[.int .i64 m.size, .slice ad m.gates.length cd, .slice ak m.pulls.length ck] 36)) (w2.alloc (.cells #[.int .i64 m.size, .slice ad m.gates.length cd, .slice ak m.pulls.length ck] 36)).drew) := (CuW.refl ((HW.out.alloc _).cu)).drew
  have HWB := Lib.hid (HW.out.alloc (.cells #[.int .i64 m.size, .slice ad m.gates.length cd, .slice ak m.pulls.length ck] 36))
  go_upto_region 3 with fail
  go_region_held3 (fun W => W.cell? ⟨w2.heap.size, 0, none⟩ = some (.int .i64 m.size) ∧ W.cell? ⟨w2.heap.size, 1, none⟩ = some (.slice ad m.gates.length cd) ∧ W.cell? ⟨w2.heap.size, 2, none⟩ = some (.slice ak m.pulls.length ck))
    (first
      | with_reducible exact box_in HB0.out HZ2.out
      | with_reducible exact box_in HB1.out HZ2.out
      | with_reducible exact box_set HB1.out HZ2.out HZR.out)
    (first
      | (go_at_call 265; (with_reducible refine (planFor_c (w.heap.size + 1) 1000 (by omega) _ m hs _ HB0.out.cu (fun w'' hch => HST.out w'' ((((Chg.refl _ _ w2).alloc _).drew.trans hch).mono (Nat.zero_le _) (by simp)))).mono ?_); rintro e w3 ⟨ap, cp, L, rfl, hiL, hL, hfL, hc1⟩; have HB1 := Lib.hid (HB0.out.trans hc1); have HC1 : Hid (Chg (w.heap.size + 1) (w.heap.size + 1 + 1) w2 w3) := (((Chg.refl _ _ w2).alloc _).trans HB1.out.ch); have HIL := Lib.hid hiL; have HFL := Lib.hid hfL; clear hiL hfL hc1; obtain ⟨q0, q1, q2, q3, q4, q5, q6⟩ := draw_res (HWB.out.trans HB1.out)))
  all_goals
    go_wp2_with fail
    exact bodyPost_ret (v := .tuple #[.agg #[.int .i64 m.size, .slice ad m.gates.length cd, .slice ak m.pulls.length ck], .slice ap L.length cp]) (by simp [results, Try.results139, go_sem, q0, q1, q2, q3, q4, q5, q6]) rfl ⟨_, m, ap, cp, L, rfl, ⟨fun w'' hch => HST.out _ (((HC1.out.mono (Nat.zero_le _) (by simp)).trans (chg_set3 (by simp; omega) _ _ _)).trans (hch.mono (Nat.le_refl _) (by simp; omega))), hs, hg, hp, below_set3 (draw_below (HWB.out.trans HB1.out)) (Nat.le_refl _) _ _ _⟩, fun w'' hch => HIL.out w'' ((chg_set3 (by have := HZR.out; simp; omega) _ _ _).trans (hch.mono (Nat.le_refl _) (by have := HZR.out; simp; omega))), hL, HFL.out⟩
set_option maxHeartbeats 4000000 in
theorem drawRunPlan_c (a : Option Addr) (n cap : Nat) (w : World) (hb : BC w a n) (hn : n ≤ 65536) : Calls Try.prog 23 #[.slice a n cap] w fun e w' => ∃ v, ∃ m : Wk, ∃ ap cp, ∃ L : List Int, e = .returned (.tuple #[v, .slice ap L.length cp]) ∧ DWk w w' v m ∧ (∀ w'', Chg 0 w.heap.size w' w'' → IC w'' ap L) ∧ L.length ≤ 62 ∧ ∀ x ∈ L, wfI x := by
  have HBC : Hid (BC (w.alloc (.cells #[.int .i64 0, .slice none 0 0, .slice none 0 0] 36)) a n) := hb.later ((Below.refl _ _).alloc (Nat.le_refl _) _)
  clear hb
  go_enter Try.func23, Try.ntmps23
  go_wp2_with fail
  refine (drawIsPlan_c a n cap _ HBC.out hn).mono ?_
  rintro e w2 ⟨v, m, ap, cp, L, rfl, ⟨hst, hs, hg, hp, hB⟩, hiL, hL, hfL⟩
  rw [show (w.alloc (.cells #[.int .i64 0, .slice none 0 0, .slice none 0 0] 36)).heap.size = w.heap.size + 1 from by simp] at hst hB hiL
  obtain ⟨⟨ad, cd, ak, ck, rfl, -, -⟩, -, -⟩ := hst _ (Chg.refl _ _ _)
  obtain ⟨q0, q1, q2, q3, q4, q5, q6⟩ := res_b hB
  have HST := Lib.hid hst
  have HIL := Lib.hid hiL
  have HFL := Lib.hid hfL
  have HB : Hid (Below w.heap.size w w2) := ((Below.refl _ _).alloc (Nat.le_refl _) _).trans (hB.mono (by omega))
  clear hst hB hiL hfL
  go_wp2_with fail
  exact bodyPost_ret (v := .tuple #[.agg #[.int .i64 m.size, .slice ad m.gates.length cd, .slice ak m.pulls.length ck], .slice ap L.length cp]) (by simp [results, Try.results23, go_sem, q0, q1, q2, q3, q4, q5, q6]) rfl ⟨_, m, ap, cp, L, rfl, ⟨fun w'' hch => HST.out _ ((chg_set3 (by omega) _ _ _).trans (hch.mono (Nat.le_refl _) (by omega))), hs, hg, hp, below_set3 HB.out (Nat.le_refl _) _ _ _⟩, fun w'' hch => HIL.out _ ((chg_set3 (by omega) _ _ _).trans (hch.mono (Nat.le_refl _) (by omega))), hL, HFL.out⟩
set_option maxRecDepth 100000 in
set_option maxHeartbeats 8000000 in
theorem drawGateOpen_c (a : Option Addr) (n cap : Nat) (w : World) (hb : BC w a n) (hn : n ≤ 65536) : Calls Try.prog 28 #[.slice a n cap] w fun e w' => ∃ v, ∃ m : Wk, ∃ k x : Int, e = .returned (.tuple #[v, .int .i64 k, .int .i64 x]) ∧ DWk w w' v m ∧ wfI k ∧ wfI x := by
  have HC := Lib.hid (draw_start (cap := cap) (o := .cells #[.int .i64 0, .slice none 0 0, .slice none 0 0] 36) (T := 98) hb hn)
  clear hb
  go_enter Try.func28, Try.ntmps28
  go_wp2_with fail
  refine (works_c (w.heap.size + 1) 0 (by omega) _ HC.out).mono ?_
  rintro e w2 ⟨v, m, rfl, hst, hg, hp, hs, hW⟩
  have HW := Lib.hid hW
  obtain ⟨⟨ad, cd, ak, ck, rfl, -, -⟩, -, -⟩ := hst _ (Chg.refl _ _ _)
  have HST := Lib.hid hst
  have HZ2 : Hid (w.heap.size + 1 < w2.heap.size) := HW.out.cu.lt
  have HZR : Hid (w.heap.size < w2.heap.size) := by have := HZ2.out; show _ < _; omega
  clear hst hW
  have HB0 : Hid (CuW (w.heap.size + 1) 1000 (w2.alloc (.cells #[.int .i64 m.size, .slice ad m.gates.length cd, .slice ak m.pulls.length ck] 36)) (w2.alloc (.cells #[.int .i64 m.size, .slice ad m.gates.length cd, .slice ak m.pulls.length ck] 36)).drew) := (CuW.refl ((HW.out.alloc _).cu)).drew
  have HWB := Lib.hid (HW.out.alloc (.cells #[.int .i64 m.size, .slice ad m.gates.length cd, .slice ak m.pulls.length ck] 36))
  obtain ⟨lg, HLG, hlg0, hlg1⟩ : ∃ lg : Nat, IntKind.i64.wrap ((m.gates.length : Int) + 1) = (lg : Int) ∧ 0 < lg ∧ lg ≤ 41 := ⟨m.gates.length + 1, by rw [IntKind.wrap_i64]; omega, by omega, by omega⟩
  go_upto_region 3 with fail
  go_region_held3 (fun W => W.cell? ⟨w2.heap.size, 0, none⟩ = some (.int .i64 m.size) ∧ W.cell? ⟨w2.heap.size, 1, none⟩ = some (.slice ad m.gates.length cd) ∧ W.cell? ⟨w2.heap.size, 2, none⟩ = some (.slice ak m.pulls.length ck))
    (first
      | with_reducible exact box_in HB0.out HZ2.out
      | with_reducible exact box_in HB1.out HZ2.out
      | with_reducible exact box_in HB2.out HZ2.out
      | with_reducible exact box_in HB3.out HZ2.out
      | with_reducible exact box_set HB3.out HZ2.out HZR.out)
    (first
      | (go_at_call 144; (with_reducible refine (pick_c (w.heap.size + 1) 1000 lg (by omega) (by omega) (by omega) _ HB0.out.cu).mono ?_); rintro e w3 ⟨r1, rfl, hr1, hc1, hu1⟩; have HB1 := Lib.hid (HB0.out.trans ⟨hc1, hu1⟩); have HC1 : Hid (Chg (w.heap.size + 1) (w.heap.size + 1 + 1) w2 w3) := (((Chg.refl _ _ w2).alloc _).trans HB1.out.ch); clear hc1 hu1)
      | (go_at_call 144; (with_reducible refine (pickI_c (w.heap.size + 1) 1002 24 _ (by omega) (by omega) (by omega) (by omega) _ HB1.out.cu).mono ?_); rintro e w4 ⟨r2, rfl, hr2, hc2, hu2⟩; have HB2 := Lib.hid (HB1.out.trans ⟨hc2, hu2⟩); have HC2 : Hid (Chg (w.heap.size + 1) (w.heap.size + 1 + 1) w2 w4) := (((Chg.refl _ _ w2).alloc _).trans HB2.out.ch); clear hc2 hu2)
      | (go_at_call 136; (with_reducible refine (colours_c (w.heap.size + 1) 1004 (by omega) _ HB2.out.cu).mono ?_); rintro e w5 ⟨x3, rfl, hx3, hc3⟩; have HB3 := Lib.hid (HB2.out.trans hc3); have HC3 : Hid (Chg (w.heap.size + 1) (w.heap.size + 1 + 1) w2 w5) := (((Chg.refl _ _ w2).alloc _).trans HB3.out.ch); have HX := Lib.hid hx3; clear hx3 hc3; obtain ⟨q0, q1, q2, q3, q4, q5, q6⟩ := draw_res (HWB.out.trans HB3.out)))
  all_goals
    go_wp2_with fail
    exact bodyPost_ret (v := .tuple #[.agg #[.int .i64 m.size, .slice ad m.gates.length cd, .slice ak m.pulls.length ck], .int .i64 (IntKind.i64.wrap ((r1 : Int) - IntKind.i64.wrap ((r2 : Int) / 23))), .int .i64 x3]) (by simp [results, Try.results28, go_sem, q0, q1, q2, q3, q4, q5, q6]) rfl ⟨_, m, _, x3, rfl, ⟨fun w'' hch => HST.out _ (((HC3.out.mono (Nat.zero_le _) (by simp)).trans (chg_set3 (by simp; omega) _ _ _)).trans (hch.mono (Nat.le_refl _) (by simp; omega))), hs, hg, hp, below_set3 (draw_below (HWB.out.trans HB3.out)) (Nat.le_refl _) _ _ _⟩, wfI_wrap _, HX.out⟩
set_option maxRecDepth 100000 in
set_option maxHeartbeats 8000000 in
theorem drawAreApart_c (a : Option Addr) (n cap : Nat) (w : World) (hb : BC w a n) (hn : n ≤ 65536) : Calls Try.prog 35 #[.slice a n cap] w fun e w' => ∃ v, ∃ m : Wk, ∃ p q r s : Int, e = .returned (.tuple #[v, .int .i64 p, .int .i64 q, .int .i64 r, .int .i64 s]) ∧ DWk w w' v m ∧ wfI p ∧ wfI q ∧ wfI r ∧ wfI s := by
  have HC := Lib.hid (draw_start (cap := cap) (o := .cells #[.int .i64 0, .slice none 0 0, .slice none 0 0] 36) (T := 98) hb hn)
  clear hb
  go_enter Try.func35, Try.ntmps35
  go_wp2_with fail
  refine (works_c (w.heap.size + 1) 0 (by omega) _ HC.out).mono ?_
  rintro e w2 ⟨v, m, rfl, hst, hg, hp, hs, hW⟩
  have HW := Lib.hid hW
  obtain ⟨⟨ad, cd, ak, ck, rfl, -, -⟩, -, -⟩ := hst _ (Chg.refl _ _ _)
  have HST := Lib.hid hst
  have HZ2 : Hid (w.heap.size + 1 < w2.heap.size) := HW.out.cu.lt
  have HZR : Hid (w.heap.size < w2.heap.size) := by have := HZ2.out; show _ < _; omega
  clear hst hW
  have HB0 : Hid (CuW (w.heap.size + 1) 1000 (w2.alloc (.cells #[.int .i64 m.size, .slice ad m.gates.length cd, .slice ak m.pulls.length ck] 36)) (w2.alloc (.cells #[.int .i64 m.size, .slice ad m.gates.length cd, .slice ak m.pulls.length ck] 36)).drew) := (CuW.refl ((HW.out.alloc _).cu)).drew
  have HWB := Lib.hid (HW.out.alloc (.cells #[.int .i64 m.size, .slice ad m.gates.length cd, .slice ak m.pulls.length ck] 36))
  go_upto_region 3 with fail
  go_region_held3 (fun W => W.cell? ⟨w2.heap.size, 0, none⟩ = some (.int .i64 m.size) ∧ W.cell? ⟨w2.heap.size, 1, none⟩ = some (.slice ad m.gates.length cd) ∧ W.cell? ⟨w2.heap.size, 2, none⟩ = some (.slice ak m.pulls.length ck))
    (first
      | with_reducible exact box_in HB0.out HZ2.out
      | with_reducible exact box_in HB1.out HZ2.out
      | with_reducible exact box_in HB2.out HZ2.out
      | with_reducible exact box_in HB3.out HZ2.out
      | with_reducible exact box_in HB4.out HZ2.out
      | with_reducible exact box_set HB4.out HZ2.out HZR.out)
    (first
      | (go_at_call 157; (with_reducible refine (nodeIn_c (w.heap.size + 1) 1000 (by omega) m _ _ ⟨_, _, _, by rfl⟩ ⟨_, _, _, by rfl⟩ hs _ HB0.out.cu).mono ?_); rintro e w3 ⟨x1, rfl, hx1, hc1⟩; have HB1 := Lib.hid (HB0.out.trans hc1); have HC1 : Hid (Chg (w.heap.size + 1) (w.heap.size + 1 + 1) w2 w3) := (((Chg.refl _ _ w2).alloc _).trans HB1.out.ch); have HX1 := Lib.hid hx1; clear hx1 hc1)
      | (go_at_call 144; (with_reducible refine (pickI_c (w.heap.size + 1) 1004 8 _ (by omega) (by omega) (by omega) (by omega) _ HB1.out.cu).mono ?_); rintro e w4 ⟨r2, rfl, hr2, hc2, hu2⟩; have HB2 := Lib.hid (HB1.out.trans ⟨hc2, hu2⟩); have HC2 : Hid (Chg (w.heap.size + 1) (w.heap.size + 1 + 1) w2 w4) := (((Chg.refl _ _ w2).alloc _).trans HB2.out.ch); clear hc2 hu2)
      | (go_at_call 157; (with_reducible refine (nodeIn_c (w.heap.size + 1) 1006 (by omega) m _ _ ⟨_, _, _, by rfl⟩ ⟨_, _, _, by rfl⟩ hs _ HB2.out.cu).mono ?_); rintro e w5 ⟨x3, rfl, hx3, hc3⟩; have HB3 := Lib.hid (HB2.out.trans hc3); have HC3 : Hid (Chg (w.heap.size + 1) (w.heap.size + 1 + 1) w2 w5) := (((Chg.refl _ _ w2).alloc _).trans HB3.out.ch); have HX3 := Lib.hid hx3; clear hx3 hc3)
      | (go_at_call 136; (with_reducible refine (colours_c (w.heap.size + 1) 1010 (by omega) _ HB3.out.cu).mono ?_); rintro e w6 ⟨x4, rfl, hx4, hc4⟩; have HB4 := Lib.hid (HB3.out.trans hc4); have HC4 : Hid (Chg (w.heap.size + 1) (w.heap.size + 1 + 1) w2 w6) := (((Chg.refl _ _ w2).alloc _).trans HB4.out.ch); have HX4 := Lib.hid hx4; clear hx4 hc4; obtain ⟨q0, q1, q2, q3, q4, q5, q6⟩ := draw_res (HWB.out.trans HB4.out)))
  all_goals
    go_wp2_with fail
    exact bodyPost_ret (v := .tuple #[.agg #[.int .i64 m.size, .slice ad m.gates.length cd, .slice ak m.pulls.length ck], .int .i64 x1, .int .i64 (r2 : Int), .int .i64 x3, .int .i64 x4]) (by simp [results, Try.results35, go_sem, q0, q1, q2, q3, q4, q5, q6]) rfl ⟨_, m, x1, r2, x3, x4, rfl, ⟨fun w'' hch => HST.out _ (((HC4.out.mono (Nat.zero_le _) (by simp)).trans (chg_set3 (by simp; omega) _ _ _)).trans (hch.mono (Nat.le_refl _) (by simp; omega))), hs, hg, hp, below_set3 (draw_below (HWB.out.trans HB4.out)) (Nat.le_refl _) _ _ _⟩, HX1.out, wfI_small (by omega) (by omega), HX3.out, HX4.out⟩
end Go.Proofs.Ytmilpahggceemaa

namespace Go
open Go.Op
theorem run_neq4 {P : Program} (w : World) {t e : TypeId} {i : TypeInfo} (hu : P.underlying t = some (.array 4 e)) (hi : P.info? e = some i) (he : P.underlying e = some (.int .i64)) (hc : P.cellsOf e = 1) (x y z u x' y' z' u' : Int) :
    (binOp .neq t (.agg #[.int .i64 x, .int .i64 y, .int .i64 z, .int .i64 u]) (.agg #[.int .i64 x', .int .i64 y', .int .i64 z', .int .i64 u'])).run P w = .ok (.bool (!decide ((x, y, z, u) = (x', y', z', u')))) w := by
  have h1 := fun (xs ys : Array Value) => run_equalIn_array (P := P) w 9999 (t := t) xs ys hu hi
  have hr : List.range 4 = [0, 1, 2, 3] := by decide
  simp only [binOp]
  simp only [Op.equal, Op.maxDepth, Sem.run_bind, h1, hc, hr]
  simp only [Op.eqItems, Sem.run_bind]
  simp [part, isAgg, run_underlying he, run_equalIn_int w _ e .i64 .i64 _ _ he]
  by_cases a : x = x' <;> by_cases b : y = y' <;> by_cases c : z = z' <;> by_cases d : u = u' <;> simp [a, b, c, d]
end Go
namespace Go.KD
open Go.RowKit
theorem belowA (w : World) (o : Obj) : Below w.heap.size w (w.alloc o) := (Below.refl _ _).alloc (Nat.le_refl _) o
/-- Works that lie in block b. -/
structure WS (W : World) (b : Nat) (v1 v2 : Value) (m : Wk) : Prop where
  c0 : W.cell? ⟨b, 0, none⟩ = some (.int .i64 m.size)
  c1 : W.cell? ⟨b, 1, none⟩ = some v1
  c2 : W.cell? ⟨b, 2, none⟩ = some v2
  at' : WkAt W (.agg #[.int .i64 m.size, v1, v2]) m
  lt : b < W.heap.size
theorem WS.later {W W' : World} {b : Nat} {v1 v2 : Value} {m : Wk} (h : WS W b v1 v2 m) (hb : Below W.heap.size W W') : WS W' b v1 v2 m :=
  ⟨(hb.cell (p := ⟨b, 0, none⟩) h.lt).trans h.c0, (hb.cell (p := ⟨b, 1, none⟩) h.lt).trans h.c1, (hb.cell (p := ⟨b, 2, none⟩) h.lt).trans h.c2, h.at'.later hb, Nat.lt_of_lt_of_le h.lt hb.size⟩
theorem WS.new {W : World} {v1 v2 : Value} {m : Wk} (T : TypeId) (h : WkAt W (.agg #[.int .i64 m.size, v1, v2]) m) : WS (W.alloc (.cells #[.int .i64 m.size, v1, v2] T)) W.heap.size v1 v2 m :=
  ⟨by simp [go_sem], by simp [go_sem], by simp [go_sem], h.later (belowA _ _), by simp⟩
end Go.KD
namespace Go.Proofs.Ytmilpahggceemaa
open Go.RowKit Go.KD
attribute [local go_sem] later_cell later_frozen
theorem rMany_c (x : Nat) (hx : x < 64) (w : World) : Calls Try.prog 38 #[.int .i64 x] w fun e w' => e = .returned (.int .i64 (popc x)) ∧ w = w' := by
  go_enter Try.func38, Try.ntmps38
  go_wp2
  go_loop [0, 3] (fun s c => ∃ n : Nat, n < 64 ∧ s = .int .i64 n ∧ ∃ k : Nat, k ≤ 6 ∧ c = .int .i64 k ∧ Hid (popN x = k + popN n)) (fun s _ => (intOf s).toNat)
  case atStart => exact ⟨x, hx, rfl, 0, by omega, rfl, by show _ = _; omega⟩
  case round =>
    obtain ⟨n, hn, rfl, k, hk, rfl, HK⟩ := hrel
    by_cases h0 : 0 < n
    · have e1 : bits BinOp.and IntKind.i64 (n : Int) 1 = ((n % 2 : Nat) : Int) := and_one n hn
      have hm : n % 2 < 2 := Nat.mod_lt _ (by omega)
      have hp := pop_half n hn
      have HP := Lib.hid hp
      have hb := pop_le6 x hx
      clear hp
      go_wp2
      go_round
      case rel => exact ⟨n / 2, by omega, by first | go_num | (congr 1; omega), k + n % 2, by have := HK.out; have := HP.out; omega, by first | go_num | (congr 1; omega), by have := HK.out; have := HP.out; show _ = _; omega⟩
      case measure => simp [intOf]; omega
    · obtain rfl : n = 0 := by omega
      go_wp2
      go_ret
      exact ⟨ret_int (by have := HK.out; rw [popN_zero] at this; unfold popc; omega), rfl⟩
set_option maxHeartbeats 4000000 in
theorem rWorks_c (v v' : Value) (m : Wk) (w : World) (h : WkAt w v m) (h' : WkAt w v' m) : Calls Try.prog 34 #[v, v'] w fun e w' => e = .returned (.bool true) ∧ Below w.heap.size w w' := by
  obtain ⟨⟨ad, cd, ak, ck, rfl, hd, hk⟩, nd, nk⟩ := h
  obtain ⟨⟨ad', cd', ak', ck', rfl, hd', hk'⟩, -, -⟩ := h'
  obtain ⟨i0, ji, jz0, jz1, jz2⟩ := info_parts infoI
  obtain ⟨W0, hW0⟩ : ∃ W0, W0 = (w.alloc (.cells #[.int .i64 m.size, .slice ad m.gates.length cd, .slice ak m.pulls.length ck] 36)).alloc (.cells #[.int .i64 m.size, .slice ad' m.gates.length cd', .slice ak' m.pulls.length ck'] 36) := ⟨_, rfl⟩
  have HB0 : Hid (Below w.heap.size w W0) := by rw [hW0]; exact below_then (belowA _ _) (belowA _ _)
  have HQ : Hid (∀ W, Below W0.heap.size W0 W → W.cell? ⟨w.heap.size, 1, none⟩ = some (.slice ad m.gates.length cd) ∧ W.cell? ⟨w.heap.size + 1, 1, none⟩ = some (.slice ad' m.gates.length cd') ∧ w.heap.size + 1 < W.heap.size) := by
    intro W hW
    have hz := hW.size
    rw [hW0] at hW hz
    refine ⟨?_, ?_, by simp at hz; omega⟩
    · rw [hW.cell (p := ⟨w.heap.size, 1, none⟩) (by simp; omega)]; simp [go_sem]
    · rw [hW.cell (p := ⟨w.heap.size + 1, 1, none⟩) (by simp)]; simp [go_sem]
  have HD := Lib.hid hd
  have HD' := Lib.hid hd'
  have HK := Lib.hid hk
  have HK' := Lib.hid hk'
  have HW0 := Lib.hid hW0
  clear hd hd' hk hk' hW0
  go_enter Try.func34, Try.ntmps34
  go_wp2_with fail
  rw [← HW0.out]
  refine (rInts_c _ _ _ _ m.pulls m.pulls _ (HK.out.later HB0.out) (HK'.out.later HB0.out) nk nk).mono ?_
  rintro e w1 ⟨rfl, hb1⟩
  have HB1 := Lib.hid hb1
  clear hb1
  obtain ⟨q1, q2, q3⟩ := HQ.out w1 HB1.out
  go_wp2_with fail
  go_loopw [5] (fun i wr => ∃ k : Nat, i = .int .i64 k ∧ k ≤ m.gates.length ∧ Hid (Below W0.heap.size W0 wr)) (fun i _ => m.gates.length - (intOf i).toNat)
  case atStart => exact ⟨0, rfl, Nat.zero_le _, HB1⟩
  case round =>
    clear HB1 q1 q2 q3
    obtain ⟨wi, rfl⟩ : ∃ wi : World, wi = wr := ⟨_, rfl⟩
    obtain ⟨k, rfl, hk, HB⟩ := hrel
    obtain ⟨q1, q2, q3⟩ := HQ.out wi HB.out
    by_cases hlt : k < m.gates.length
    · have hkI : (k : Int) < (m.gates.length : Int) := by omega
      have hk0 : (0 : Int) ≤ (k : Int) := by omega
      obtain ⟨b, off, x, y, z, u, rfl, HX, hbs, e0, e1, e2, e3⟩ := (HD.out.later (below_then HB0.out HB.out)).at k hlt
      obtain ⟨b', off', x', y', z', u', rfl, HX', hbs', f0, f1, f2, f3⟩ := (HD'.out.later (below_then HB0.out HB.out)).at k hlt
      have heq : (x', y', z', u') = (x, y, z, u) := HX'.out.symm.trans HX.out
      simp only [Prod.mk.injEq] at heq
      obtain ⟨rfl, rfl, rfl, rfl⟩ := heq
      have he4 := fun (w : World) => run_neq4 (P := Try.prog) w Try.underlying54 ji Try.underlying3 (by kernel_rfl) x' y' z' u' x' y' z' u'
      simp only [decide_true, Bool.not_true] at he4
      go_wp2_with fail
      go_quiet (fail)
      go_wp2_with fail
      go_roundw
      case rel => exact ⟨k + 1, by go_num, by omega, below_drewN HB.out _⟩
      case measure => simp [intOf]; omega
    · obtain rfl : k = m.gates.length := by omega
      go_wp2_with fail
      go_ret
      exact ⟨rfl, below_then HB0.out HB.out⟩
end Go.Proofs.Ytmilpahggceemaa
