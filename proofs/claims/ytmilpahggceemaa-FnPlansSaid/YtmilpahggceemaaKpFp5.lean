/- Draws of works. Small functions of the laws over bytes: size of the bytes, equality of lists. Contract of l1Put. Acts of works: plain words, and contracts of isVisitOf, l8Visit, behind, l8Do, acts. -/
import Derived.Test.YtmilpahggceemaaKpFp1
import Derived.Test.YtmilpahggceemaaKpFp4
import Derived.Deep.RegionHeld3
import Derived.Deep.DeepCutAuto
import Derived.Test.YtmilpahggceemaaKpFp0
import Derived.Test.YtmilpahggceemaaKpFp2
import Derived.Lib.AppendZerosOnto
import Derived.Lib.SliceRun
import Derived.IntWalk
set_option linter.unusedVariables false
set_option linter.unusedSimpArgs false
namespace Go.Proofs.Ytmilpahggceemaa
open Go.RowKit Go.KD
attribute [local go_sem] later_cell later_frozen
theorem l1Least_c (a b : Int) (w : World) : Calls Try.prog 267 #[.int .i64 a, .int .i64 b] w fun e w' => e = .returned (.int .i64 (min a b)) ∧ w = w' := by
  go_enter Try.func267, Try.ntmps267
  go_wp2
  all_goals (go_ret; exact ⟨ret_int (by omega), rfl⟩)
theorem l1Most_c (a b : Int) (w : World) : Calls Try.prog 268 #[.int .i64 a, .int .i64 b] w fun e w' => e = .returned (.int .i64 (max a b)) ∧ w = w' := by
  go_enter Try.func268, Try.ntmps268
  go_wp2
  all_goals (go_ret; exact ⟨ret_int (by omega), rfl⟩)
theorem pickI_c (c n k : Nat) (ki : Int) (hki : ki = (k : Int)) (hk0 : 0 < k) (hk : k ≤ 10000) (hn : n ≤ 900000) (w : World) (h : Cu c n w) : Calls Try.prog 144 #[.pointer (some ⟨c, 0, none⟩), .int .i64 ki] w (NatP c (n + 2) k w) := by
  subst hki; exact pick_c c n k hk0 hk hn w h
/-- A gate is put into works that a draw makes. -/
theorem l8PutW_c (c n base g : Nat) (sz : Int) (gl : List D4) (bg cg : Nat) (pl : List Int) (vp : Value) (x y z u : Int) (w0 w : World) (h : WB c n base g 54 3 4 w0 w sz (c4 gl) gl.length (.slice (some ⟨bg, 0, none⟩) gl.length cg) pl vp) (hl : gl.length ≤ 100) :
    Calls Try.prog 155 #[.slice (some ⟨bg, 0, none⟩) gl.length cg, .agg #[.int .i64 x, .int .i64 y, .int .i64 z, .int .i64 u]] w fun e w' => ∃ gl' : List D4, ∃ g' c', e = .returned (.slice (some ⟨g', 0, none⟩) gl'.length c') ∧ gl'.length ≤ gl.length + 1 ∧ w'.cell? ⟨g, 1, none⟩ = some (.slice (some ⟨bg, 0, none⟩) gl.length cg) ∧ w'.frozen? ⟨g, 1, none⟩ = false ∧ g < w'.heap.size ∧
      WB c n base g 54 3 4 w0 (w'.setCell ⟨g, 1, none⟩ (.slice (some ⟨g', 0, none⟩) gl'.length c')) sz (c4 gl') gl'.length (.slice (some ⟨g', 0, none⟩) gl'.length c') pl vp := by
  obtain ⟨q1, q2, q3, q4, q5⟩ := own_someP h.rg
  refine (l8PutO_c base bg 0 cg gl.length rfl gl x y z u w h.rg (by have := h.gb; have := h.gz; omega) rfl q1 q5 q2 q3 (by omega)).mono ?_
  rintro e w9 ⟨g9, n9, cp9, rfl, hlen9, ho9, ha9, hb9⟩
  subst hlen9
  have hb := h.below hb9 (Nat.le_refl _)
  exact ⟨putG gl (x, y, z, u), g9, cp9, rfl, putG_len _ _, hb.c1, hb.fz 1 (by omega), hb.gz, h.first hb9 ho9 (by rcases ha9 with h | h; (left; rw [h]; rfl); (right; exact h))⟩
set_option maxRecDepth 100000 in
set_option maxHeartbeats 8000000 in
theorem works_c (c n : Nat) (hn : n ≤ 500000) (w : World) (h : Cu c n w) : Calls Try.prog 143 #[.pointer (some ⟨c, 0, none⟩)] w (WorksP c (n + 1000) w) := by
  obtain ⟨i0, hi, hz0, hz1, hz2⟩ := info_parts infoI
  obtain ⟨s0, si, sz0, sz1, sz2⟩ := info_parts infoA4
  have HC := Lib.hid h
  have hcz := h.lt
  clear h
  obtain ⟨wr0, hwr0⟩ : ∃ wr0, wr0 = w.alloc (.cells #[.int .i64 0, .slice none 0 0, .slice none 0 0] 36) := ⟨_, rfl⟩
  have HWR0 := Lib.hid hwr0
  have HS0 : Hid (wr0.heap.size = w.heap.size + 1) := by show _ = _; rw [hwr0]; simp
  have HCR : Hid (CuW c n w wr0) := by show CuW c n w wr0; rw [hwr0]; exact (CuW.refl HC.out).alloc _
  clear hwr0
  go_enter Try.func143, Try.ntmps143
  go_wp2_with fail
  rw [← HWR0.out]
  have hcr : c < wr0.heap.size := HCR.out.cu.lt
  refine (among_c c n 8 8 _ [4, 5, 3, 6, 2, 8, 1, 12] rfl (by omega) (by omega) (by omega) _ (HCR.out.cu.later ((Below.refl _ _).alloc (Nat.le_refl _) _) hcr) (fun w' hc => ic_litC rfl rfl (by decide) hcr hc HS0.out)).mono ?_
  rintro e w1 ⟨x, rfl, hx, hc1, hu1⟩
  obtain ⟨nn, rfl, hn1, hn12⟩ : ∃ j : Nat, x = j ∧ 1 ≤ j ∧ j ≤ 12 := by simp at hx; exact ⟨x.toNat, by omega, by omega, by omega⟩
  have HW1 : Hid (CuW c (n + 2) wr0 w1) := ((CuW.refl HCR.out.cu).alloc _).trans ⟨hc1, hu1⟩ |>.mono (by omega)
  clear hx hc1 hu1
  go_wp2_with fail
  refine (pick_c c (n + 2) 4 (by omega) (by omega) (by omega) _ HW1.out.cu).mono ?_
  rintro e w2 ⟨r, rfl, hr, hc2, hu2⟩
  have HW2 : Hid (CuW c (n + 4) wr0 w2) := HW1.out.trans ⟨hc2, hu2⟩
  clear hc2 hu2
  obtain ⟨mm, hmm, hm1, hm4⟩ : ∃ mm : Nat, 1 + (r : Int) = (mm : Int) ∧ 1 ≤ mm ∧ mm ≤ 4 := ⟨1 + r, by omega, by omega, by omega⟩
  go_wp2_with fail
  clear hmm
  have HB0 : Hid (WB c (n + 4) wr0.heap.size (w2.heap.size + 1 + 1) 54 3 4 wr0 (((w2.alloc (.cells #[] 54)).alloc (.cells #[] 3)).alloc (.cells #[.int .i64 (nn : Int), .slice (some ⟨w2.heap.size, 0, none⟩) 0 0, .slice (some ⟨w2.heap.size + 1, 0, none⟩) 0 0] 36)) (nn : Int) (c4 []) 0 (.slice (some ⟨w2.heap.size, 0, none⟩) 0 0) [] (.slice (some ⟨w2.heap.size + 1, 0, none⟩) 0 0)) := WB.start HW2.out hcr
  obtain ⟨bg0, hbg0⟩ : ∃ bg0, bg0 = w2.heap.size := ⟨_, rfl⟩
  obtain ⟨g, hg⟩ : ∃ g, g = w2.heap.size + 1 + 1 := ⟨_, rfl⟩
  rw [← hg] at HB0 ⊢
  have HG := Lib.hid hg
  clear HW1 HW2 hg hbg0
  go_loopw [6] (fun v wr => ∃ k : Nat, ∃ gl : List D4, ∃ pl : List Int, ∃ bg cg bp cp, v = .int .i64 k ∧ k ≤ nn ∧ gl.length ≤ k ∧ pl.length = k ∧ Hid (WB c (n + 4 + 20 * k) wr0.heap.size g 54 3 4 wr0 wr (nn : Int) (c4 gl) gl.length (.slice (some ⟨bg, 0, none⟩) gl.length cg) pl (.slice (some ⟨bp, 0, none⟩) pl.length cp))) (fun v _ => nn - (intOf v).toNat)
  case atStart => exact ⟨0, [], [], _, _, _, _, rfl, by omega, Nat.zero_le _, rfl, HB0⟩
  case round =>
    clear HB0
    obtain ⟨wo, rfl⟩ : ∃ wo : World, wo = wr := ⟨_, rfl⟩
    obtain ⟨k, gl, pl, bg, cg, bp, cp, rfl, hk, hgl, hpl, HWB⟩ := hrel
    have HPL := Lib.hid hpl
    clear hpl
    by_cases hlt : k < nn
    · have hkI : (k : Int) < (nn : Int) := by omega
      go_wp2_with fail
      refine (one_c c (n + 4 + 20 * k) 2 (by omega) (by omega) (by omega) _ HWB.out.cu.cu).mono ?_
      rintro e w3 ⟨b3, rfl, hc3, hu3⟩
      have HWB3 := Lib.hid (HWB.out.draw ⟨hc3, hu3⟩)
      clear hc3 hu3 HWB
      go_upto_if 29 with fail
      go_cut [7] (fun s7 wx => ∃ t : Nat, s7 = .int .i64 t ∧ t < 64 ∧ Hid (WB c (n + 4 + 20 * k + 10) wr0.heap.size g 54 3 4 wr0 wx (nn : Int) (c4 gl) gl.length (.slice (some ⟨bg, 0, none⟩) gl.length cg) pl (.slice (some ⟨bp, 0, none⟩) pl.length cp)))
      case first =>
        cases b3
        · go_wp2_with fail
          go_meet
          case rel => exact ⟨0, rfl, by omega, HWB3.out.mono (by omega)⟩
        · go_wp2_with fail
          refine (few_c c (n + 4 + 20 * k + 2) mm (by omega) (by omega) (by omega) _ HWB3.out.cu.cu).mono ?_
          rintro e w4 ⟨t, rfl, ht, hc4, hu4⟩
          have HWB4 := Lib.hid (HWB3.out.draw ⟨hc4, hu4⟩)
          clear hc4 hu4 HWB3
          go_wp2_with fail
          refine (pick_c c (n + 4 + 20 * k + 2 + 6) mm (by omega) (by omega) (by omega) _ HWB4.out.cu.cu).mono ?_
          rintro e w5 ⟨r5, rfl, hr5, hc5, hu5⟩
          have HWB5 := Lib.hid (HWB4.out.draw ⟨hc5, hu5⟩)
          clear hc5 hu5 HWB4
          obtain ⟨p, HP, ep, hp⟩ := shl_at r5 (by omega)
          have hp64 : p < 64 := by rw [HP.out]; exact Nat.pow_lt_pow_right (n := 6) (by omega) (by omega)
          have eo : bits .or .i64 (t : Int) (p : Int) = ((t ||| p : Nat) : Int) := i64_or t p (by omega) (by omega)
          have ht2 : t ||| p < 64 := Nat.or_lt_two_pow (n := 6) ht hp64
          have hr63 : (r5 : Int) < 64 := by omega
          have hr0 : (0 : Int) ≤ (r5 : Int) := by omega
          go_wp2_with fail
          go_meet
          case rel => exact ⟨t ||| p, rfl, ht2, HWB5.out.mono (by omega)⟩
      case rest =>
        clear HWB3
        obtain ⟨w4, rfl⟩ : ∃ w4 : World, w4 = wc := ⟨_, rfl⟩
        obtain ⟨t, rfl, ht, HWB4⟩ := hcut
        have hsz4 := HWB4.out.cu.ch.size
        have c2 := HWB4.out.c2
        have HWA := Lib.hid (HWB4.out.alloc (.cells #[.int .i64 (t : Int)] 3))
        have hplk : pl.length ≤ 12 := by rw [HPL.out]; omega
        go_upto_region 10 with (at_builtin; refine wpList_append_own_at _ rfl _ _ 24 rfl wr0.heap.size 3 i0 (.int .i64 0) 1 8 Try.underlying24 hi hz0 hz1 hz2 rfl (by decide) _ _ _ rfl HWA.out.rp ⟨w4.heap.size, 0, none⟩ 1 1 [.int .i64 (t : Int)] rfl rfl ?_ ?_ ?_ ?_ ?_ ?_; (exact cell_one_new _ _ _); (simp [Value.oneCell']); (unfold maxLen; omega); omega; (simp; omega); intro v' w5 hown' hgrow _ hat; obtain ⟨d1, d2, d3⟩ := HWA.out.far2 hgrow; have HWB5 := Lib.hid (HWA.out.push1 hown' hgrow hat); obtain ⟨bq, cq, hvq, -, -⟩ := own_someS hown' (by omega); subst hvq; clear hown' hgrow hat)
        have HPL5 : Hid ((pl ++ [(t : Int)]).length = k + 1) := by show _ = _; rw [List.length_append, HPL.out]; rfl
        by_cases hk0 : 0 < k
        · have hk0I : (0 : Int) < (k : Int) := by omega
          clear HWA HWB4 c2 d1 d2 d3
          go_wp2_with fail
          refine (few_c c (n + 4 + 20 * k + 10) mm (by omega) (by omega) (by omega) _ HWB5.out.cu.cu).mono ?_
          rintro e w6 ⟨t2, rfl, ht2, hc6, hu6⟩
          have HWB6 := Lib.hid (HWB5.out.draw ⟨hc6, hu6⟩)
          have HWB6d := Lib.hid HWB6.out.drew
          clear hc6 hu6 HWB5
          have e6 := HWB6d.out.c1
          go_upto_region 12 with fail
          have hgl12 : gl.length ≤ 12 := by omega
          go_region_with
            (first
              | (go_at_call 144; (with_reducible refine (pick_c c (n + 4 + 20 * k + 10 + 6) k hk0 (by omega) (by omega) _ HWB6d.out.cu.cu).mono ?_); rintro e w7 ⟨r7, rfl, hr7, hc7, hu7⟩; have HWB7 := Lib.hid (HWB6d.out.draw ⟨hc7, hu7⟩); have e7 := HWB7.out.c1; clear hc7 hu7)
              | (go_at_call 144; (with_reducible refine (pickI_c c (n + 4 + 20 * k + 10 + 6 + 2) 2 _ (by omega) (by omega) (by omega) (by omega) _ HWB7.out.cu.cu).mono ?_); rintro e w8 ⟨r8, rfl, hr8, hc8, hu8⟩; have HWB8 := Lib.hid (HWB7.out.draw ⟨hc8, hu8⟩); have e8 := HWB8.out.c1; clear hc8 hu8)
              | (go_at_call 267; (with_reducible refine (l1Least_c _ _ _).mono ?_); rintro e w9 ⟨rfl, rfl⟩)
              | (go_at_call 155; (with_reducible refine (l8PutW_c c _ _ g _ gl bg cg _ _ _ _ _ _ _ _ HWB8.out (by omega)).mono ?_); rintro e w9 ⟨gl9, g9, cp9, rfl, hgl9, e9, f9, z9, hwb9⟩; have HWB9 := Lib.hid hwb9; clear hwb9))
          all_goals
            go_wp2_with fail
            go_roundw
            case rel => exact ⟨k + 1, gl9, pl ++ [(t : Int)], g9, cp9, bq, cq, by go_num, by omega, by omega, HPL5.out, by rw [List.length_append]; exact HWB9.out.mono (by omega)⟩
            case measure => simp [intOf]; omega
        · obtain rfl : k = 0 := by omega
          go_wp2_with fail
          go_roundw
          case rel => exact ⟨0 + 1, gl, pl ++ [(t : Int)], bg, cg, bq, cq, by go_num, by omega, by omega, HPL5.out, by rw [List.length_append]; exact HWB5.out.mono (by omega)⟩
          case measure => simp [intOf]; omega
    · obtain rfl : k = nn := by omega
      have hplk : pl.length ≤ 12 := by rw [HPL.out]; omega
      go_wp2_with fail
      refine (pick_c c (n + 4 + 20 * k) 6 (by omega) (by omega) (by omega) _ HWB.out.cu.cu).mono ?_
      rintro e w3 ⟨j, rfl, hj, hc3, hu3⟩
      have HWB3 := Lib.hid ((HWB.out.draw ⟨hc3, hu3⟩).mono (n' := n + 400 - 20 * j) (by omega))
      clear hc3 hu3 HWB
      go_wp2_with fail
      go_loopw [9] (fun v wr => ∃ j : Nat, ∃ gl : List D4, ∃ bg cg, v = .int .i64 j ∧ j ≤ 5 ∧ gl.length ≤ 17 - j ∧ Hid (WB c (n + 400 - 20 * j) wr0.heap.size g 54 3 4 wr0 wr (k : Int) (c4 gl) gl.length (.slice (some ⟨bg, 0, none⟩) gl.length cg) pl (.slice (some ⟨bp, 0, none⟩) pl.length cp))) (fun v _ => (intOf v).toNat)
      case atStart => exact ⟨j, gl, bg, cg, rfl, by omega, by omega, HWB3⟩
      case round =>
        clear HWB3 hgl hj
        obtain ⟨wi, rfl⟩ : ∃ wi : World, wi = wr := ⟨_, rfl⟩
        obtain ⟨j, gl, bg, cg, rfl, hj, hgl, HWB⟩ := hrel
        by_cases hgo : 0 < j ∧ 1 < k
        · obtain ⟨hj0, hk1⟩ := hgo
          have hj0I : (0 : Int) < (j : Int) := by omega
          have hk1I : (1 : Int) < (k : Int) := by omega
          go_wp2_with fail
          refine (pick_c c (n + 400 - 20 * j) k (by omega) (by omega) (by omega) _ HWB.out.cu.cu).mono ?_
          rintro e w4 ⟨a4, rfl, ha4, hc4, hu4⟩
          have HWB4 := Lib.hid (HWB.out.draw ⟨hc4, hu4⟩)
          clear hc4 hu4 HWB
          go_wp2_with fail
          refine (pick_c c (n + 400 - 20 * j + 2) k (by omega) (by omega) (by omega) _ HWB4.out.cu.cu).mono ?_
          rintro e w5 ⟨b5, rfl, hb5, hc5, hu5⟩
          have HWB5 := Lib.hid (HWB4.out.draw ⟨hc5, hu5⟩)
          clear hc5 hu5 HWB4
          by_cases hab : a4 = b5
          · have hne : ((a4 : Int) != (b5 : Int)) = false := by simp [hab]
            clear hab
            go_wp2_with fail
            clear hne
            go_roundw
            case rel => exact ⟨j - 1, gl, bg, cg, by go_num, by omega, by omega, HWB5.out.mono (by omega)⟩
            case measure => simp [intOf]; omega
          · have hne : ((a4 : Int) != (b5 : Int)) = true := by simp; omega
            clear hab
            have HWB5d := Lib.hid HWB5.out.drew
            have e5 := HWB5d.out.c1
            go_upto_region 18 with fail
            clear hne
            go_region_with
              (first
                | (go_at_call 267; (with_reducible refine (l1Least_c _ _ _).mono ?_); rintro e w6 ⟨rfl, rfl⟩)
                | (go_at_call 268; (with_reducible refine (l1Most_c _ _ _).mono ?_); rintro e w6 ⟨rfl, rfl⟩)
                | (go_at_call 262; (with_reducible refine (few_c c (n + 400 - 20 * j + 2 + 2) mm (by omega) (by omega) (by omega) _ HWB5d.out.cu.cu).mono ?_); rintro e w7 ⟨r7, rfl, hr7, hc7, hu7⟩; have HWB7 := Lib.hid (HWB5d.out.draw ⟨hc7, hu7⟩); have e7 := HWB7.out.c1; clear hc7 hu7)
                | (go_at_call 144; (with_reducible refine (pickI_c c (n + 400 - 20 * j + 2 + 2 + 6) 2 _ (by omega) (by omega) (by omega) (by omega) _ HWB7.out.cu.cu).mono ?_); rintro e w8 ⟨r8, rfl, hr8, hc8, hu8⟩; have HWB8 := Lib.hid (HWB7.out.draw ⟨hc8, hu8⟩); have e8 := HWB8.out.c1; clear hc8 hu8)
                | (go_at_call 155; (with_reducible refine (l8PutW_c c _ _ g _ gl bg cg _ _ _ _ _ _ _ _ HWB8.out (by omega)).mono ?_); rintro e w9 ⟨gl9, g9, cp9, rfl, hgl9, e9, f9, z9, hwb9⟩; have HWB9 := Lib.hid hwb9; clear hwb9))
            all_goals
              go_wp2_with fail
              go_roundw
              case rel => exact ⟨j - 1, gl9, g9, cp9, by go_num, by omega, by omega, HWB9.out.mono (by omega)⟩
              case measure => simp [intOf]; omega
        · have hgf : ¬ ((0 : Int) < (j : Int)) ∨ ((0 : Int) < (j : Int) ∧ ¬ ((1 : Int) < (k : Int))) := by omega
          have HWBx := Lib.hid (HWB.out.mono (n' := n + 400) (by omega))
          have hgl17 : gl.length ≤ 17 := by omega
          clear HWB hgl hj hgo
          rcases hgf with h1 | ⟨h1, h2⟩
          all_goals
            go_upto_region 19 with fail
            go_wp2_with fail
            refine (pickI_c c (n + 400) 50 _ (by rfl) (by omega) (by omega) (by omega) _ HWBx.out.cu.cu).mono ?_
            rintro e w4 ⟨z, rfl, hz, hc4, hu4⟩
            have HWB4 := Lib.hid (HWBx.out.draw ⟨hc4, hu4⟩)
            have HG4 : Hid (w.heap.size < g ∧ wr0.heap.size ≤ g) := ⟨by have := HWBx.out.gb; rw [HS0.out] at this; omega, HWBx.out.gb⟩
            clear hc4 hu4 HWBx
            obtain ⟨zi, hzi⟩ : ∃ zi : Int, zi = (z : Int) := ⟨_, rfl⟩
            rw [← hzi]
            have hzc : zi = 0 ∨ zi = 1 ∨ zi = 2 ∨ zi = 3 ∨ zi = 4 ∨ 5 ≤ zi := by omega
            clear hzi
            have hgr := HG4.out.1
            rcases hzc with rfl | rfl | rfl | rfl | rfl | h5
            · have hcz4 : c < w4.heap.size := HWB4.out.cu.cu.lt
              go_wp2_with fail
              refine (among_c c (n + 402) 3 3 _ [0, 13, (k : Int) + 1] rfl (by omega) (by omega) (by omega) _ (HWB4.out.cu.cu.later ((Below.refl _ _).alloc (Nat.le_refl _) _) hcz4) (fun w' hc => ic_litC rfl rfl (by simp) hcz4 hc rfl)).mono ?_
              rintro e w5 ⟨x, rfl, hx, hc5, hu5⟩
              have HWB5 := Lib.hid ((HWB4.out.alloc _).draw ⟨hc5, hu5⟩)
              have HWB6 := Lib.hid (HWB5.out.size x)
              have g0 := HWB5.out.c0
              have f0 := HWB5.out.fz 0 (by omega)
              have gz := HWB5.out.gz
              have hxb : 0 ≤ x ∧ x ≤ 13 := by simp at hx; omega
              clear hx hc5 hu5 HWB4
              go_upto_region 33 with fail
              clear g0 f0 gz
              obtain ⟨w6, hw6⟩ : ∃ w6, w6 = w5.setCell ⟨g, 0, none⟩ (.int .i64 x) := ⟨_, rfl⟩
              rw [← hw6] at HWB6 ⊢
              clear hw6 HWB5
              obtain ⟨q0, q1, q2, q3, q4, q5, q6⟩ := res_facts HWR0.out HWB6.out.cu.ch hcz
              have g0 := HWB6.out.c0
              have g1 := HWB6.out.c1
              have g2 := HWB6.out.c2
              have gz := HWB6.out.gz
              obtain ⟨hA, hB⟩ := works_end HWB6.out HCR.out (r := w.heap.size) (by rw [HS0.out]; omega) hcz (Nat.le_refl _) (by omega) (by (try rw [List.length_set]); omega) (.int .i64 x) (.slice (some ⟨bg, 0, none⟩) gl.length cg) (.slice (some ⟨bp, 0, none⟩) pl.length cp)
              have HA := Lib.hid hA
              have HB := Lib.hid hB
              clear hA hB
              go_wp2_with fail
              exact bodyPost_ret (v := .agg #[.int .i64 x, .slice (some ⟨bg, 0, none⟩) gl.length cg, .slice (some ⟨bp, 0, none⟩) pl.length cp]) (by simp [results, Try.results143, go_sem, q0, q1, q2, q3, q4, q5, q6]) rfl ⟨_, ⟨x, gl, pl⟩, rfl, HA.out, by dsimp only; omega, by dsimp only; (try rw [List.length_set]); omega, (by dsimp only; omega), HB.out.mono (by omega)⟩
            · have g1 := HWB4.out.c1
              by_cases hl0 : gl.length = 0
              · have hlf : ¬ ((0 : Int) < (gl.length : Int)) := by omega
                clear hl0
                go_upto_region 33 with fail
                clear g1 hlf
                obtain ⟨q0, q1, q2, q3, q4, q5, q6⟩ := res_facts HWR0.out HWB4.out.cu.ch hcz
                have g0 := HWB4.out.c0
                have g1 := HWB4.out.c1
                have g2 := HWB4.out.c2
                have gz := HWB4.out.gz
                obtain ⟨hA, hB⟩ := works_end HWB4.out HCR.out (r := w.heap.size) (by rw [HS0.out]; omega) hcz (Nat.le_refl _) (by omega) (by (try rw [List.length_set]); omega) (.int .i64 (k : Int)) (.slice (some ⟨bg, 0, none⟩) gl.length cg) (.slice (some ⟨bp, 0, none⟩) pl.length cp)
                have HA := Lib.hid hA
                have HB := Lib.hid hB
                clear hA hB
                go_wp2_with fail
                exact bodyPost_ret (v := .agg #[.int .i64 (k : Int), .slice (some ⟨bg, 0, none⟩) gl.length cg, .slice (some ⟨bp, 0, none⟩) pl.length cp]) (by simp [results, Try.results143, go_sem, q0, q1, q2, q3, q4, q5, q6]) rfl ⟨_, ⟨(k : Int), gl, pl⟩, rfl, HA.out, by dsimp only; omega, by dsimp only; (try rw [List.length_set]); omega, (by dsimp only; omega), HB.out.mono (by omega)⟩
              · have hlf : (0 : Int) < (gl.length : Int) := by omega
                go_wp2_with fail
                refine (pick_c c (n + 402) gl.length (by omega) (by omega) (by omega) _ HWB4.out.cu.cu).mono ?_
                rintro e w5 ⟨kk, rfl, hkk, hc5, hu5⟩
                have HWB5 := Lib.hid (HWB4.out.draw ⟨hc5, hu5⟩)
                have HWB5d := Lib.hid HWB5.out.drew
                have HCB : Hid (c < w5.heap.size) := HWB5.out.cu.cu.lt
                clear hc5 hu5 HWB4 g1 hl0
                have hk0 : (0 : Int) ≤ (kk : Int) := by omega
                have hkI : (kk : Int) < (gl.length : Int) := by omega
                have HKK := Lib.hid hkk
                obtain ⟨y0, y1, hy⟩ : ∃ y0 y1, (gl[kk]!).1 = y0 ∧ (gl[kk]!).2.1 = y1 := ⟨_, _, rfl, rfl⟩
                have HY := Lib.hid hy
                clear hy
                go_upto_region 25 with fail
                go_region_held3 (fun W => W.cell? ⟨g, 1, none⟩ = some (.slice (some ⟨bg, 0, none⟩) gl.length cg) ∧ W.cell? ⟨bg, kk * 4, none⟩ = some (.int .i64 y0) ∧ W.cell? ⟨bg, kk * 4 + 1, none⟩ = some (.int .i64 y1))
                  (first
                    | with_reducible exact HWB5d.out.sgy HKK.out HY.out
                    | with_reducible exact ((HWB5.out.alloc _).drew).sgy HKK.out HY.out
                    | with_reducible exact (((HWB5.out.alloc _).alloc _).drew).sgy HKK.out HY.out
                    | with_reducible exact HWB6.out.sgy HKK.out HY.out
                    | with_reducible exact (HWB6.out.alloc _).sgy HKK.out HY.out
                    | with_reducible exact HWB7.out.sgy HKK.out HY.out
                    | with_reducible exact HWB7.out.sgs HKK.out HY.out)
                  (first
                    | (go_at_call 261; (with_reducible refine (among_c c (n + 404) 3 3 _ [64, -1, 1] ?_ (by omega) (by omega) (by omega) _ (HWB5.out.alloc _).drew.cu.cu ?_).mono ?_); (rfl); (exact fun w' hc => ic_d1 (by rfl) (by rfl) (by simp) HCB.out hc); rintro e w6 ⟨x6, rfl, hx6, hc6, hu6⟩; have HWB6 := Lib.hid ((HWB5.out.alloc _).drew.draw ⟨hc6, hu6⟩); have HC6 : Hid (c < w6.heap.size) := hu6.lt; clear hx6 hc6 hu6)
                    | (go_at_call 261; (with_reducible refine (among_c c (n + 404) 3 3 _ [64, -1, 1] ?_ (by omega) (by omega) (by omega) _ ((HWB5.out.alloc _).alloc _).drew.cu.cu ?_).mono ?_); (rfl); (exact fun w' hc => ic_d2a (by rfl) (by rfl) (by simp) HCB.out hc); rintro e w6 ⟨x6, rfl, hx6, hc6, hu6⟩; have HWB6 := Lib.hid (((HWB5.out.alloc _).alloc _).drew.draw ⟨hc6, hu6⟩); have HLB : Hid (∀ w', Chg c (c + 1) w6 w' → IC w' (some ⟨w5.heap.size + 1, 0, none⟩) [0, 2]) := (fun w' hc => ic_d2b (by rfl) (by rfl) (by simp) HCB.out (hc6.trans hc)); clear hx6 hc6 hu6)
                    | (go_at_call 261; (with_reducible refine (among_c c (n + 404) 3 3 _ [64, -1, 1] ?_ (by omega) (by omega) (by omega) _ ((HWB5.out.alloc _).alloc _).drew.cu.cu ?_).mono ?_); (rfl); (exact fun w' hc => ic_d2b (by rfl) (by rfl) (by simp) HCB.out hc); rintro e w6 ⟨x6, rfl, hx6, hc6, hu6⟩; have HWB6 := Lib.hid (((HWB5.out.alloc _).alloc _).drew.draw ⟨hc6, hu6⟩); have HLB : Hid (∀ w', Chg c (c + 1) w6 w' → IC w' (some ⟨w5.heap.size, 0, none⟩) [0, 2]) := (fun w' hc => ic_d2a (by rfl) (by rfl) (by simp) HCB.out (hc6.trans hc)); clear hx6 hc6 hu6)
                    | (go_at_call 261; (with_reducible refine (among_c c (n + 406) 2 2 _ [0, 2] ?_ (by omega) (by omega) (by omega) _ (HWB6.out.alloc _).cu.cu ?_).mono ?_); (rfl); (exact fun w' hc => ic_litC (by rfl) (by rfl) (by simp) HC6.out hc rfl); rintro e w7 ⟨x7, rfl, hx7, hc7, hu7⟩; have HWB7 := Lib.hid ((HWB6.out.alloc _).draw ⟨hc7, hu7⟩); clear hx7 hc7 hu7; obtain ⟨s1, s2, s3⟩ := HWB7.out.sgy HKK.out HY.out; obtain ⟨⟨t0, t2⟩, ⟨t1, t3⟩, t4, t5, t6, t9, t7, t8⟩ := HWB7.out.fg HKK.out)
                    | (go_at_call 261; (with_reducible refine (among_c c (n + 406) 2 2 _ [0, 2] ?_ (by omega) (by omega) (by omega) _ HWB6.out.cu.cu ?_).mono ?_); (rfl); (exact fun w' hc => HLB.out w' hc); rintro e w7 ⟨x7, rfl, hx7, hc7, hu7⟩; have HWB7 := Lib.hid (HWB6.out.draw ⟨hc7, hu7⟩); clear hx7 hc7 hu7; obtain ⟨s1, s2, s3⟩ := HWB7.out.sgy HKK.out HY.out; obtain ⟨⟨t0, t2⟩, ⟨t1, t3⟩, t4, t5, t6, t9, t7, t8⟩ := HWB7.out.fg HKK.out))
                all_goals
                  clear s1 s2 s3 t0 t1 t2 t3 t4 t5 t6 t9 t7 t8
                  go_upto_region 33 with fail
                  obtain ⟨gl', hgl', hwb8⟩ := HWB7.out.set4 (kk := kk) y0 y1 x6 x7
                  obtain ⟨w8, hw8⟩ : ∃ w8, w8 = (((w7.setCell ⟨bg, kk * 4, none⟩ (.int .i64 y0)).setCell ⟨bg, kk * 4 + 1, none⟩ (.int .i64 y1)).setCell ⟨bg, kk * 4 + 2, none⟩ (.int .i64 x6)).setCell ⟨bg, kk * 4 + 3, none⟩ (.int .i64 x7) := ⟨_, rfl⟩
                  rw [← hw8] at hwb8 ⊢
                  have HWB8 := Lib.hid hwb8
                  have hgl18 : gl'.length ≤ 17 := by omega
                  clear hw8 hwb8 hgl' HWB7 HWB6
                  obtain ⟨q0, q1, q2, q3, q4, q5, q6⟩ := res_facts HWR0.out HWB8.out.cu.ch hcz
                  have g0 := HWB8.out.c0
                  have g1 := HWB8.out.c1
                  have g2 := HWB8.out.c2
                  have gz := HWB8.out.gz
                  obtain ⟨hA, hB⟩ := works_end HWB8.out HCR.out (r := w.heap.size) (by rw [HS0.out]; omega) hcz (Nat.le_refl _) (by omega) (by (try rw [List.length_set]); omega) (.int .i64 (k : Int)) (.slice (some ⟨bg, 0, none⟩) gl'.length cg) (.slice (some ⟨bp, 0, none⟩) pl.length cp)
                  have HA := Lib.hid hA
                  have HB := Lib.hid hB
                  clear hA hB
                  go_wp2_with fail
                  exact bodyPost_ret (v := .agg #[.int .i64 (k : Int), .slice (some ⟨bg, 0, none⟩) gl'.length cg, .slice (some ⟨bp, 0, none⟩) pl.length cp]) (by simp [results, Try.results143, go_sem, q0, q1, q2, q3, q4, q5, q6]) rfl ⟨_, ⟨(k : Int), gl', pl⟩, rfl, HA.out, by dsimp only; omega, by dsimp only; (try rw [List.length_set]); omega, (by dsimp only; omega), HB.out.mono (by omega)⟩
            · have HWB4d := Lib.hid HWB4.out.drew
              have HCB : Hid (c < w4.heap.size) := HWB4.out.cu.cu.lt
              go_upto_region 27 with fail
              go_region_held3 (fun W => W.cell? ⟨g, 2, none⟩ = some (.slice (some ⟨bp, 0, none⟩) pl.length cp))
                (first
                  | with_reducible exact HWB4d.out.c2
                  | with_reducible exact ((HWB4.out.alloc _).drew).c2
                  | with_reducible exact HWB6.out.c2
                  | with_reducible exact (HWB6.out.alloc _).c2
                  | with_reducible exact HWB7.out.c2
                  | with_reducible exact HWB7.out.sps)
                (first
                  | (go_at_call 144; (with_reducible refine (pick_c c (n + 402) k (by omega) (by omega) (by omega) _ HWB4d.out.cu.cu).mono ?_); rintro e w6 ⟨r6, rfl, hr6, hc6, hu6⟩; have HWB6 := Lib.hid (HWB4d.out.draw ⟨hc6, hu6⟩); have HC6 : Hid (c < w6.heap.size) := hu6.lt; have hr6I : (r6 : Int) < (pl.length : Int) := (by have := HPL.out; omega); have hr60 : (0 : Int) ≤ (r6 : Int) := (by omega); have HR6 : Hid (r6 < pl.length) := (by show _ < _; omega); clear hc6 hu6)
                  | (go_at_call 144; (with_reducible refine (pick_c c (n + 402) k (by omega) (by omega) (by omega) _ (HWB4.out.alloc _).drew.cu.cu).mono ?_); rintro e w6 ⟨r6, rfl, hr6, hc6, hu6⟩; have HWB6 := Lib.hid ((HWB4.out.alloc _).drew.draw ⟨hc6, hu6⟩); have hr6I : (r6 : Int) < (pl.length : Int) := (by have := HPL.out; omega); have hr60 : (0 : Int) ≤ (r6 : Int) := (by omega); have HR6 : Hid (r6 < pl.length) := (by show _ < _; omega); have HLB : Hid (∀ w', Chg c (c + 1) w6 w' → IC w' (some ⟨w4.heap.size, 0, none⟩) [64, -1, 63]) := (fun w' hc => ic_d1 (by rfl) (by rfl) (by simp) HCB.out (hc6.trans hc)); clear hc6 hu6)
                  | (go_at_call 261; (with_reducible refine (among_c c (n + 404) 3 3 _ [64, -1, 63] ?_ (by omega) (by omega) (by omega) _ (HWB6.out.alloc _).cu.cu ?_).mono ?_); (rfl); (exact fun w' hc => ic_litC (by rfl) (by rfl) (by simp) HC6.out hc rfl); rintro e w7 ⟨x7, rfl, hx7, hc7, hu7⟩; have HWB7 := Lib.hid ((HWB6.out.alloc _).draw ⟨hc7, hu7⟩); clear hx7 hc7 hu7; obtain ⟨⟨t0, t1⟩, t2, t3, t4⟩ := HWB7.out.fp HR6.out)
                  | (go_at_call 261; (with_reducible refine (among_c c (n + 404) 3 3 _ [64, -1, 63] ?_ (by omega) (by omega) (by omega) _ HWB6.out.cu.cu ?_).mono ?_); (rfl); (exact fun w' hc => HLB.out w' hc); rintro e w7 ⟨x7, rfl, hx7, hc7, hu7⟩; have HWB7 := Lib.hid (HWB6.out.draw ⟨hc7, hu7⟩); clear hx7 hc7 hu7; obtain ⟨⟨t0, t1⟩, t2, t3, t4⟩ := HWB7.out.fp HR6.out))
              all_goals
                clear t0 t1 t2 t3 t4 HWB6 HWB4d HWB4
                go_upto_region 33 with fail
                have HWB8 := Lib.hid (HWB7.out.setp (j := r6) (x := x7))
                obtain ⟨w8, hw8⟩ : ∃ w8, w8 = w7.setCell ⟨bp, r6, none⟩ (.int .i64 x7) := ⟨_, rfl⟩
                rw [← hw8] at HWB8 ⊢
                obtain ⟨pl8, hpl8, hlen8⟩ : ∃ pl8, pl8 = pl.set r6 x7 ∧ pl8.length = pl.length := ⟨_, rfl, List.length_set⟩
                rw [← hpl8] at HWB8
                have hplk8 : pl8.length ≤ 12 := by omega
                clear hw8 hpl8 hlen8 HWB7 hr6I hr60
                obtain ⟨q0, q1, q2, q3, q4, q5, q6⟩ := res_facts HWR0.out HWB8.out.cu.ch hcz
                have g0 := HWB8.out.c0
                have g1 := HWB8.out.c1
                have g2 := HWB8.out.c2
                have gz := HWB8.out.gz
                obtain ⟨hA, hB⟩ := works_end HWB8.out HCR.out (r := w.heap.size) (by rw [HS0.out]; omega) hcz (Nat.le_refl _) (by omega) (by (try rw [List.length_set]); omega) (.int .i64 (k : Int)) (.slice (some ⟨bg, 0, none⟩) gl.length cg) (.slice (some ⟨bp, 0, none⟩) pl8.length cp)
                have HA := Lib.hid hA
                have HB := Lib.hid hB
                clear hA hB
                go_wp2_with fail
                exact bodyPost_ret (v := .agg #[.int .i64 (k : Int), .slice (some ⟨bg, 0, none⟩) gl.length cg, .slice (some ⟨bp, 0, none⟩) pl8.length cp]) (by simp [results, Try.results143, go_sem, q0, q1, q2, q3, q4, q5, q6]) rfl ⟨_, ⟨(k : Int), gl, pl8⟩, rfl, HA.out, by dsimp only; omega, by dsimp only; (try rw [List.length_set]); omega, (by dsimp only; omega), HB.out.mono (by omega)⟩
            · have g1 := HWB4.out.c1
              by_cases hl0 : gl.length = 0
              · have hlf : ¬ ((0 : Int) < (gl.length : Int)) := by omega
                clear hl0
                go_upto_region 33 with fail
                clear g1 hlf
                obtain ⟨q0, q1, q2, q3, q4, q5, q6⟩ := res_facts HWR0.out HWB4.out.cu.ch hcz
                have g0 := HWB4.out.c0
                have g1 := HWB4.out.c1
                have g2 := HWB4.out.c2
                have gz := HWB4.out.gz
                obtain ⟨hA, hB⟩ := works_end HWB4.out HCR.out (r := w.heap.size) (by rw [HS0.out]; omega) hcz (Nat.le_refl _) (by omega) (by (try rw [List.length_set]); omega) (.int .i64 (k : Int)) (.slice (some ⟨bg, 0, none⟩) gl.length cg) (.slice (some ⟨bp, 0, none⟩) pl.length cp)
                have HA := Lib.hid hA
                have HB := Lib.hid hB
                clear hA hB
                go_wp2_with fail
                exact bodyPost_ret (v := .agg #[.int .i64 (k : Int), .slice (some ⟨bg, 0, none⟩) gl.length cg, .slice (some ⟨bp, 0, none⟩) pl.length cp]) (by simp [results, Try.results143, go_sem, q0, q1, q2, q3, q4, q5, q6]) rfl ⟨_, ⟨(k : Int), gl, pl⟩, rfl, HA.out, by dsimp only; omega, by dsimp only; (try rw [List.length_set]); omega, (by dsimp only; omega), HB.out.mono (by omega)⟩
              · have hlf : (0 : Int) < (gl.length : Int) := by omega
                have hlN : 0 < gl.length := by omega
                obtain ⟨y0, y1, y2, y3, d0, d1, d2, d3⟩ := HWB4.out.four hlN
                have gz := HWB4.out.gz
                have bz : bg < w4.heap.size := Own.block_lt HWB4.out.rg rfl
                have wz := HWB4.out.cu.ch.size
                clear hl0
                go_upto_region 30 with fail
                go_region_law ((refine step_append_lies _ (by rfl) _ _ _ (by rfl) wr0.heap.size 54 s0 (.agg #[.int .i64 0, .int .i64 0, .int .i64 0, .int .i64 0]) 4 32 Try.underlying34 si sz0 sz1 sz2 rfl (by decide) _ _ _ (by rfl) ((HWB4.out.alloc _).drew.rg) ⟨w4.heap.size, 0, none⟩ 1 1 (encQ (y0, y1, y2, y3)) (by rfl) (by rfl) (fun j u hu => fourNew w4 _ _ _ _ _ j u hu) (by intro u hu; simp [encQ] at hu; rcases hu with rfl | rfl | rfl | rfl <;> rfl) (by omega) (by unfold maxLen; omega) (by omega) (by simp; omega) (w4.heap.size + 1) (by simp) ?_; intro g9 cp9 w9 hown9 hgrow9 hat9 hlt9; obtain ⟨f1, f2, f3⟩ := (HWB4.out.alloc (.cells #[.int .i64 y0, .int .i64 y1, .int .i64 y2, .int .i64 y3] 54)).drew.far1 hgrow9; have HWB9 := Lib.hid ((HWB4.out.alloc (.cells #[.int .i64 y0, .int .i64 y1, .int .i64 y2, .int .i64 y3] 54)).drew.push4 hown9 hgrow9 (by rcases hat9 with h | h; (left; rw [h]; rfl); (right; rw [h]; simp [Value.ownBlock]))); clear hown9 hgrow9 hat9))
                all_goals
                  clear g1 hlf d0 d1 d2 d3 f1 f2 f3 hlt9 bz gz
                  go_upto_region 33 with fail
                  obtain ⟨gl9, hl9, hc9⟩ : ∃ gl9 : List D4, gl9.length = gl.length + 1 ∧ c4 gl9 = c4 gl ++ encQ (y0, y1, y2, y3) := ⟨gl ++ [(y0, y1, y2, y3)], by simp, c4_append _ _⟩
                  rw [← hc9, ← hl9] at HWB9
                  rw [← hl9]
                  have hgl18 : gl9.length ≤ 18 := by omega
                  obtain ⟨w8, hw8⟩ : ∃ w8, w8 = w9.setCell ⟨g, 1, none⟩ (.slice (some ⟨g9, 0, none⟩) gl9.length cp9) := ⟨_, rfl⟩
                  rw [← hw8] at HWB9 ⊢
                  clear hw8 hl9 hc9 hlN HWB4
                  obtain ⟨q0, q1, q2, q3, q4, q5, q6⟩ := res_facts HWR0.out HWB9.out.cu.ch hcz
                  have g0 := HWB9.out.c0
                  have g1 := HWB9.out.c1
                  have g2 := HWB9.out.c2
                  have gz := HWB9.out.gz
                  obtain ⟨hA, hB⟩ := works_end HWB9.out HCR.out (r := w.heap.size) (by rw [HS0.out]; omega) hcz (Nat.le_refl _) (by omega) (by (try rw [List.length_set]); omega) (.int .i64 (k : Int)) (.slice (some ⟨g9, 0, none⟩) gl9.length cp9) (.slice (some ⟨bp, 0, none⟩) pl.length cp)
                  have HA := Lib.hid hA
                  have HB := Lib.hid hB
                  clear hA hB
                  go_wp2_with fail
                  exact bodyPost_ret (v := .agg #[.int .i64 (k : Int), .slice (some ⟨g9, 0, none⟩) gl9.length cp9, .slice (some ⟨bp, 0, none⟩) pl.length cp]) (by simp [results, Try.results143, go_sem, q0, q1, q2, q3, q4, q5, q6]) rfl ⟨_, ⟨(k : Int), gl9, pl⟩, rfl, HA.out, by dsimp only; omega, by dsimp only; (try rw [List.length_set]); omega, (by dsimp only; omega), HB.out.mono (by omega)⟩
            · obtain ⟨q0, q1, q2, q3, q4, q5, q6⟩ := res_facts HWR0.out HWB4.out.cu.ch hcz
              obtain ⟨-, hB⟩ := works_end HWB4.out HCR.out (r := w.heap.size) (by rw [HS0.out]; omega) hcz (Nat.le_refl _) (by omega) (by omega) (.int .i64 0) (.slice none 0 0) (.slice none 0 0)
              have HB := Lib.hid hB
              clear hB
              go_wp2_with fail
              exact bodyPost_ret (v := .agg #[.int .i64 0, .slice none 0 0, .slice none 0 0]) (by simp [results, Try.results143, go_sem, q0, q1, q2, q3, q4, q5, q6]) rfl ⟨_, ⟨0, [], []⟩, rfl, fun w'' _ => ⟨⟨none, 0, none, 0, rfl, fun j hj => absurd hj (Nat.not_lt_zero j), fun j hj => absurd hj (Nat.not_lt_zero j)⟩, by simp, by simp⟩, by simp, by simp, by simp, HB.out.mono (by omega)⟩
            · have z0 : (zi == 0) = false := by simp; omega
              have z1 : (zi == 1) = false := by simp; omega
              have z2 : (zi == 2) = false := by simp; omega
              have z3 : (zi == 3) = false := by simp; omega
              have z4 : (zi == 4) = false := by simp; omega
              clear h5
              go_upto_region 33 with fail
              clear z0 z1 z2 z3 z4
              obtain ⟨q0, q1, q2, q3, q4, q5, q6⟩ := res_facts HWR0.out HWB4.out.cu.ch hcz
              have g0 := HWB4.out.c0
              have g1 := HWB4.out.c1
              have g2 := HWB4.out.c2
              have gz := HWB4.out.gz
              obtain ⟨hA, hB⟩ := works_end HWB4.out HCR.out (r := w.heap.size) (by rw [HS0.out]; omega) hcz (Nat.le_refl _) (by omega) (by (try rw [List.length_set]); omega) (.int .i64 (k : Int)) (.slice (some ⟨bg, 0, none⟩) gl.length cg) (.slice (some ⟨bp, 0, none⟩) pl.length cp)
              have HA := Lib.hid hA
              have HB := Lib.hid hB
              clear hA hB
              go_wp2_with fail
              exact bodyPost_ret (v := .agg #[.int .i64 (k : Int), .slice (some ⟨bg, 0, none⟩) gl.length cg, .slice (some ⟨bp, 0, none⟩) pl.length cp]) (by simp [results, Try.results143, go_sem, q0, q1, q2, q3, q4, q5, q6]) rfl ⟨_, ⟨(k : Int), gl, pl⟩, rfl, HA.out, by dsimp only; omega, by dsimp only; (try rw [List.length_set]); omega, (by dsimp only; omega), HB.out.mono (by omega)⟩
end Go.Proofs.Ytmilpahggceemaa

namespace Go.KD
open Go.RowKit
/-- A list that a draw of a law gives. -/
def DListP (k : Nat) (w : World) (e : Ending) (w' : World) : Prop := ∃ a c, ∃ L : List Int, e = .returned (.slice a L.length c) ∧ IC w' a L ∧ L.length ≤ k ∧ (∀ x ∈ L, wfI x) ∧ Below w.heap.size w w'
theorem cu_start {w : World} {a : Option Addr} {n cap : Nat} {T : TypeId} (hb : BC w a n) (hn : n ≤ 65536) : Cu w.heap.size 0 (w.alloc (.cells #[.slice a n cap, .int .i64 0, .int .u64 0] T)) := by
  refine ⟨⟨a, n, cap, 0, 0, ?_, ?_, ?_, Nat.le_refl _, hn, fun k hk => ?_⟩, fun o ho => ?_, by simp⟩
  · simp [go_sem]
  · simp [go_sem]
  · simp [go_sem]
  · obtain ⟨b, off, x, e1, e2, e3, e4⟩ := hb k hk
    exact ⟨b, off, x, e1, e2, e3, by rw [World.cell?_alloc_lt _ _ _ e2]; exact e4⟩
  · simp [go_sem]
theorem CuW.start {w w' : World} {o : Obj} {n : Nat} (h : CuW w.heap.size n (w.alloc o) w') : Below w.heap.size w w' := by
  have h1 : Below w.heap.size (w.alloc o) w' := h.ch.below (Nat.le_refl _) (by simp)
  exact ((Below.refl _ _).alloc (Nat.le_refl _) o).trans h1
end Go.KD
namespace Go.Proofs.Ytmilpahggceemaa
open Go.RowKit Go.KD
attribute [local go_sem] later_cell later_frozen
set_option maxHeartbeats 1000000 in
theorem rInts_c (a a' : Option Addr) (cap cap' : Nat) (l m : List Int) (w : World) (hA : IC w a l) (hA' : IC w a' m) (hl : l.length ≤ 1048576) (hl' : m.length ≤ 1048576) : Calls Try.prog 16 #[.slice a l.length cap, .slice a' m.length cap'] w fun e w' =>
   e = .returned (.bool (decide (l = m))) ∧ Below w.heap.size w w' := by
  by_cases hlen : l.length = m.length
  · have HL := Lib.hid hlen
    have hq : ((l.length : Int) != (m.length : Int)) = false := by simp [hlen]
    clear hlen
    go_enter Try.func16, Try.ntmps16
    go_wp2
    clear hq
    go_loopw [5] (fun i wr => ∃ k : Nat, k ≤ l.length ∧ i = .int .i64 k ∧ Below w.heap.size w wr ∧ Hid (l.take k = m.take k)) (fun i _ => l.length - (intOf i).toNat)
    case atStart => exact ⟨0, Nat.zero_le _, rfl, Below.refl _ _, rfl⟩
    case round =>
      obtain ⟨k, hk, rfl, hb, HEQ⟩ := hrel
      by_cases hlt : k < l.length
      · have hlt' : k < m.length := by have := HL.out; omega
        obtain ⟨b, off, x, rfl, HX, hbs, c0⟩ := (hA.later hb).at k hlt
        obtain ⟨b', off', x', rfl, HY, hbs', d0⟩ := (hA'.later hb).at k hlt'
        have hsz := hb.size
        go_wp2
        go_quiet (fail)
        go_wp2
        · go_ret
          exact ⟨ret_bool (by symm; rw [decide_eq_false_iff_not]; rintro rfl; have := HX.out; rw [HY.out] at this; simp_all), by first | exact hb.trans (hb1.mono hsz) | (apply below_drewN; exact hb)⟩
        · go_roundw
          case rel => exact ⟨k+1, by omega, by go_num, by first | exact hb.trans (hb1.mono hsz) | (apply below_drewN; exact hb), take_succ_eq hlt hlt' HEQ.out (by rw [HX.out, HY.out]; simp_all)⟩
          case measure => simp [intOf]; omega
      · go_wp2
        go_ret
        exact ⟨ret_bool (by symm; rw [decide_eq_true_iff]; have := HEQ.out; rwa [List.take_of_length_le (by omega), List.take_of_length_le (by have := HL.out; omega)] at this), hb⟩
  · have hq : ((l.length : Int) != (m.length : Int)) = true := by simp; omega
    go_enter Try.func16, Try.ntmps16
    go_wp2
    go_ret
    exact ⟨ret_bool (by symm; rw [decide_eq_false_iff_not]; rintro rfl; simp at hlen), Below.refl _ _⟩
set_option maxHeartbeats 1000000 in
theorem vInts_c (a a' : Option Addr) (cap cap' : Nat) (l m : List Int) (w : World) (hA : IC w a l) (hA' : IC w a' m) (hl : l.length ≤ 1048576) (hl' : m.length ≤ 1048576) : Calls Try.prog 81 #[.slice a l.length cap, .slice a' m.length cap'] w fun e w' =>
   e = .returned (.bool (decide (l = m))) ∧ Below w.heap.size w w' := by
  by_cases hlen : l.length = m.length
  · have HL := Lib.hid hlen
    have hq : ((l.length : Int) != (m.length : Int)) = false := by simp [hlen]
    clear hlen
    go_enter Try.func81, Try.ntmps81
    go_wp2
    clear hq
    go_loopw [5] (fun i wr => ∃ k : Nat, k ≤ l.length ∧ i = .int .i64 k ∧ Below w.heap.size w wr ∧ Hid (l.take k = m.take k)) (fun i _ => l.length - (intOf i).toNat)
    case atStart => exact ⟨0, Nat.zero_le _, rfl, Below.refl _ _, rfl⟩
    case round =>
      obtain ⟨k, hk, rfl, hb, HEQ⟩ := hrel
      by_cases hlt : k < l.length
      · have hlt' : k < m.length := by have := HL.out; omega
        obtain ⟨b, off, x, rfl, HX, hbs, c0⟩ := (hA.later hb).at k hlt
        obtain ⟨b', off', x', rfl, HY, hbs', d0⟩ := (hA'.later hb).at k hlt'
        have hsz := hb.size
        go_wp2
        go_quiet (fail)
        go_wp2
        · go_ret
          exact ⟨ret_bool (by symm; rw [decide_eq_false_iff_not]; rintro rfl; have := HX.out; rw [HY.out] at this; simp_all), by first | exact hb.trans (hb1.mono hsz) | (apply below_drewN; exact hb)⟩
        · go_roundw
          case rel => exact ⟨k+1, by omega, by go_num, by first | exact hb.trans (hb1.mono hsz) | (apply below_drewN; exact hb), take_succ_eq hlt hlt' HEQ.out (by rw [HX.out, HY.out]; simp_all)⟩
          case measure => simp [intOf]; omega
      · go_wp2
        go_ret
        exact ⟨ret_bool (by symm; rw [decide_eq_true_iff]; have := HEQ.out; rwa [List.take_of_length_le (by omega), List.take_of_length_le (by have := HL.out; omega)] at this), hb⟩
  · have hq : ((l.length : Int) != (m.length : Int)) = true := by simp; omega
    go_enter Try.func81, Try.ntmps81
    go_wp2
    go_ret
    exact ⟨ret_bool (by symm; rw [decide_eq_false_iff_not]; rintro rfl; simp at hlen), Below.refl _ _⟩
theorem rBig_c (a : Option Addr) (n cap : Nat) (w : World) (hn : n ≤ maxLen) : Calls Try.prog 11 #[.slice a n cap] w fun e w' => e = .returned (.bool (decide (65536 < n))) ∧ w = w' := by
  unfold maxLen at hn
  go_enter Try.func11, Try.ntmps11
  go_wp2
  go_ret
  exact ⟨ret_bool (by simp; omega), rfl⟩
theorem vBig_c (a : Option Addr) (n cap : Nat) (w : World) (hn : n ≤ maxLen) : Calls Try.prog 63 #[.slice a n cap] w fun e w' => e = .returned (.bool (decide (65536 < n))) ∧ w = w' := by
  unfold maxLen at hn
  go_enter Try.func63, Try.ntmps63
  go_wp2
  go_ret
  exact ⟨ret_bool (by simp; omega), rfl⟩
end Go.Proofs.Ytmilpahggceemaa

namespace Go.Proofs.Ytmilpahggceemaa
open Go.RowKit Go.KD
attribute [local go_sem] later_cell later_frozen
set_option maxHeartbeats 8000000 in
theorem l1PutB_c (b0 off0 cap : Nat) (l : List Int) (x : Int) (w : World) (hA : IC w (some ⟨b0, off0, none⟩) l) (hl : l.length ≤ 1000) (hcap : l.length ≤ cap) (hc63 : cap ≤ maxLen) :
    Calls Try.prog 279 #[.slice (some ⟨b0, off0, none⟩) l.length cap, .int .i64 x] w fun e w' => ∃ b' off' c', e = .returned (.slice (some ⟨b', off', none⟩) (putL l x).length c') ∧ IC w' (some ⟨b', off', none⟩) (putL l x) ∧ (putL l x).length ≤ c' ∧ c' ≤ maxLen ∧ Below w.heap.size w w' ∧ (b' = b0 ∨ w.heap.size ≤ b') := by
  obtain ⟨i0, ji, jz0, jz1, jz2⟩ := info_parts infoI
  have hc2 : cap ≤ 9223372036854775807 := by unfold maxLen at hc63; omega
  go_enter Try.func279, Try.ntmps279
  go_wp2
  go_loop [5] (fun c => ∃ k : Nat, k ≤ l.length ∧ c = .int .i64 k ∧ Hid (∀ j, j < k → l[j]! < x)) (fun c => l.length - (intOf c).toNat)
  case atStart => exact ⟨0, Nat.zero_le _, rfl, fun j hj => absurd hj (Nat.not_lt_zero j)⟩
  case round =>
    obtain ⟨k, hk, rfl, HJ⟩ := hrel
    by_cases hlt : k < l.length
    · have hkn : (k : Int) < (l.length : Int) := by omega
      obtain ⟨b, off, y, hbo, HY, hbs, e0⟩ := hA.at k hlt
      cases hbo
      cases p1 : decide (y < x)
      · have HL : Hid (¬ l[k]! < x) := by show ¬ _; rw [HY.out]; simpa using p1
        cases p2 : (y == x)
        · have HE : Hid (putL l x = l.take k ++ x :: l.drop k) := by
            show _ = _
            rw [putL_eq l x k hk HJ.out (fun _ => HL.out), if_neg]
            rintro ⟨-, h⟩
            rw [HY.out] at h; simp [h] at p2
          have hkc : (k : Int) ≤ (cap : Int) := by omega
          have hkl : (k : Int) ≤ (l.length : Int) := by omega
          have hlc : (l.length : Int) ≤ (cap : Int) := by omega
          have hk0 : (0 : Int) ≤ (k : Int) := by omega
          have hck : ¬ (cap = k) := by omega
          go_wp2
          go_region_law (first
            | (refine step_append_below _ w w.heap.size (by (repeat (first | exact Below.refl _ _ | apply Below.drew | apply below_drewN | (refine Below.setCell ?_ (by first | omega | (simp; done) | (simp; omega) | (dsimp only; omega)) _) | (refine Below.alloc ?_ (by first | omega | (simp; done) | (simp; omega) | (dsimp only; omega)) _)))) (by rfl) _ _ 24 (by rfl) 3 i0 (.int .i64 0) 1 8 Try.underlying24 ji jz0 jz1 jz2 rfl (by decide) (.slice (some ⟨_, 0, none⟩) 0 0) 0 [] (by rfl) (own_empty (by first | exact heap1 w _ | exact heap2 w _ _ | exact heap3 w _ _) (by simp)) ⟨b0, off0, none⟩ k _ (ints (l.take k)) (by rfl) (by simp [length_ints]; omega) (news_take (hA.later (by (repeat (first | exact Below.refl _ _ | apply Below.drew | apply below_drewN | (refine Below.setCell ?_ (by first | omega | (simp; done) | (simp; omega) | (dsimp only; omega)) _) | (refine Below.alloc ?_ (by first | omega | (simp; done) | (simp; omega) | (dsimp only; omega)) _))))) k) ints_one (by unfold maxLen; omega) (by omega) (by simp; try omega) ?_; intro v1 w1 ho1 hg1 hb1)
            | (refine step_append_below _ w w.heap.size (hb1.alloc hb1.size _) (by rfl) _ _ 24 (by rfl) 3 i0 (.int .i64 0) 1 8 Try.underlying24 ji jz0 jz1 jz2 rfl (by decide) _ _ _ (by rfl) (ho1.alloc _) ⟨_, 0, none⟩ 1 1 (ints [x]) (by rfl) (by rfl) (cell_one_new _ _ _) ints_one (by unfold maxLen; omega) (by omega) (by have := hb1.size; simp; omega) ?_; intro v2 w2 ho2 hg2 hb2)
            | (refine step_append_below _ w w.heap.size hb1 (by rfl) _ _ 24 (by rfl) 3 i0 (.int .i64 0) 1 8 Try.underlying24 ji jz0 jz1 jz2 rfl (by decide) _ _ _ (by rfl) ho1 ⟨_, 0, none⟩ 1 1 (ints [x]) (by rfl) (by rfl) (by intro j u hu; rcases j with _ | j; (rw [add_at rfl, hg1.cell_far ⟨_, _, none⟩ (by simp; try omega) (by simp [Value.ownBlock]; try omega)]; simp [ints] at hu; subst hu; simp [go_sem]); (simp [ints] at hu)) ints_one (by unfold maxLen; omega) (by omega) hb1.size ?_; intro v2 w2 ho2 hg2 hb2)
            | (refine step_append_below _ w w.heap.size hb2 (by rfl) _ _ 24 (by rfl) 3 i0 (.int .i64 0) 1 8 Try.underlying24 ji jz0 jz1 jz2 rfl (by decide) _ _ _ (by rfl) ho2 ⟨b0, off0 + k, none⟩ (l.length - k) _ (ints (l.drop k)) (by rfl) (by simp [length_ints]) (news_drop (hA.later hb2) k) ints_one (by unfold maxLen; omega) (by omega) hb2.size ?_; intro v3 w3 ho3 hg3 hb3))
          all_goals
            obtain ⟨g3, c3, rfl, hi3, hr3, hm3, hlo3⟩ := put_end hk ho3
            have HI := Lib.hid hi3; clear hi3
            clear ho3 ho2 ho1 hg1 hg2 hg3
            go_wp2
            go_ret
            exact ⟨g3, 0, c3, by rw [HE.out]; rfl, by rw [HE.out]; exact HI.out, by rw [HE.out]; exact hr3, hm3, hb3, .inr hlo3⟩
        · have HE : Hid (putL l x = l) := by
            show _ = _
            rw [putL_eq l x k hk HJ.out (fun _ => HL.out), if_pos]
            exact ⟨hlt, by rw [HY.out]; simpa using p2⟩
          go_wp2
          go_ret
          exact ⟨b0, off0, cap, by rw [HE.out]; rfl, by rw [HE.out]; exact hA, by rw [HE.out]; exact hcap, hc63, Below.refl _ _, .inl rfl⟩
      · have HJ' : Hid (∀ j, j < k + 1 → l[j]! < x) := by
          intro j hj
          rcases Nat.lt_or_ge j k with h | h
          · exact HJ.out j h
          · obtain rfl : j = k := by omega
            rw [HY.out]; simpa using p1
        go_wp2
        go_round
        case rel => exact ⟨k + 1, by omega, by go_num, HJ'⟩
        case measure => simp [intOf]; omega
    · have hge : decide ((k : Int) < (l.length : Int)) = false := by simp; omega
      have HE : Hid (putL l x = l.take k ++ x :: l.drop k) := by
        show _ = _
        rw [putL_eq l x k hk HJ.out (fun h => absurd h hlt), if_neg (fun h => hlt h.1)]
      by_cases hck : cap = k
      · have hkc : (k : Int) ≤ (cap : Int) := by omega
        have hkl : (k : Int) ≤ (l.length : Int) := by omega
        have hlc : (l.length : Int) ≤ (cap : Int) := by omega
        have hk0 : (0 : Int) ≤ (k : Int) := by omega
        go_wp2
        go_region_law (first
          | (refine step_append_below _ w w.heap.size (by (repeat (first | exact Below.refl _ _ | apply Below.drew | apply below_drewN | (refine Below.setCell ?_ (by first | omega | (simp; done) | (simp; omega) | (dsimp only; omega)) _) | (refine Below.alloc ?_ (by first | omega | (simp; done) | (simp; omega) | (dsimp only; omega)) _)))) (by rfl) _ _ 24 (by rfl) 3 i0 (.int .i64 0) 1 8 Try.underlying24 ji jz0 jz1 jz2 rfl (by decide) (.slice (some ⟨_, 0, none⟩) 0 0) 0 [] (by rfl) (own_empty (by first | exact heap1 w _ | exact heap2 w _ _ | exact heap3 w _ _) (by simp)) ⟨b0, off0, none⟩ k _ (ints (l.take k)) (by rfl) (by simp [length_ints]; omega) (news_take (hA.later (by (repeat (first | exact Below.refl _ _ | apply Below.drew | apply below_drewN | (refine Below.setCell ?_ (by first | omega | (simp; done) | (simp; omega) | (dsimp only; omega)) _) | (refine Below.alloc ?_ (by first | omega | (simp; done) | (simp; omega) | (dsimp only; omega)) _))))) k) ints_one (by unfold maxLen; omega) (by omega) (by simp; try omega) ?_; intro v1 w1 ho1 hg1 hb1)
          | (refine step_append_below _ w w.heap.size (hb1.alloc hb1.size _) (by rfl) _ _ 24 (by rfl) 3 i0 (.int .i64 0) 1 8 Try.underlying24 ji jz0 jz1 jz2 rfl (by decide) _ _ _ (by rfl) (ho1.alloc _) ⟨_, 0, none⟩ 1 1 (ints [x]) (by rfl) (by rfl) (cell_one_new _ _ _) ints_one (by unfold maxLen; omega) (by omega) (by have := hb1.size; simp; omega) ?_; intro v2 w2 ho2 hg2 hb2)
          | (refine step_append_below _ w w.heap.size hb1 (by rfl) _ _ 24 (by rfl) 3 i0 (.int .i64 0) 1 8 Try.underlying24 ji jz0 jz1 jz2 rfl (by decide) _ _ _ (by rfl) ho1 ⟨_, 0, none⟩ 1 1 (ints [x]) (by rfl) (by rfl) (by intro j u hu; rcases j with _ | j; (rw [add_at rfl, hg1.cell_far ⟨_, _, none⟩ (by simp; try omega) (by simp [Value.ownBlock]; try omega)]; simp [ints] at hu; subst hu; simp [go_sem]); (simp [ints] at hu)) ints_one (by unfold maxLen; omega) (by omega) hb1.size ?_; intro v2 w2 ho2 hg2 hb2)
          | (refine step_append_below _ w w.heap.size hb2 (by rfl) _ _ 24 (by rfl) 3 i0 (.int .i64 0) 1 8 Try.underlying24 ji jz0 jz1 jz2 rfl (by decide) _ _ _ (by rfl) ho2 ⟨b0, off0, none⟩ (l.length - k) _ (ints (l.drop k)) (by rfl) (by simp [length_ints]) (by rw [List.drop_of_length_le (by omega)]; intro j u hu; simp [ints] at hu) ints_one (by unfold maxLen; omega) (by omega) hb2.size ?_; intro v3 w3 ho3 hg3 hb3))
        all_goals
          obtain ⟨g3, c3, rfl, hi3, hr3, hm3, hlo3⟩ := put_end hk ho3
          have HI := Lib.hid hi3; clear hi3
          clear ho3 ho2 ho1 hg1 hg2 hg3
          go_wp2
          go_ret
          exact ⟨g3, 0, c3, by rw [HE.out]; rfl, by rw [HE.out]; exact HI.out, by rw [HE.out]; exact hr3, hm3, hb3, .inr hlo3⟩
      · have hkc : (k : Int) ≤ (cap : Int) := by omega
        have hkl : (k : Int) ≤ (l.length : Int) := by omega
        have hlc : (l.length : Int) ≤ (cap : Int) := by omega
        have hk0 : (0 : Int) ≤ (k : Int) := by omega
        go_wp2
        go_region_law (first
          | (refine step_append_below _ w w.heap.size (by (repeat (first | exact Below.refl _ _ | apply Below.drew | apply below_drewN | (refine Below.setCell ?_ (by first | omega | (simp; done) | (simp; omega) | (dsimp only; omega)) _) | (refine Below.alloc ?_ (by first | omega | (simp; done) | (simp; omega) | (dsimp only; omega)) _)))) (by rfl) _ _ 24 (by rfl) 3 i0 (.int .i64 0) 1 8 Try.underlying24 ji jz0 jz1 jz2 rfl (by decide) (.slice (some ⟨_, 0, none⟩) 0 0) 0 [] (by rfl) (own_empty (by first | exact heap1 w _ | exact heap2 w _ _ | exact heap3 w _ _) (by simp)) ⟨b0, off0, none⟩ k _ (ints (l.take k)) (by rfl) (by simp [length_ints]; omega) (news_take (hA.later (by (repeat (first | exact Below.refl _ _ | apply Below.drew | apply below_drewN | (refine Below.setCell ?_ (by first | omega | (simp; done) | (simp; omega) | (dsimp only; omega)) _) | (refine Below.alloc ?_ (by first | omega | (simp; done) | (simp; omega) | (dsimp only; omega)) _))))) k) ints_one (by unfold maxLen; omega) (by omega) (by simp; try omega) ?_; intro v1 w1 ho1 hg1 hb1)
          | (refine step_append_below _ w w.heap.size (hb1.alloc hb1.size _) (by rfl) _ _ 24 (by rfl) 3 i0 (.int .i64 0) 1 8 Try.underlying24 ji jz0 jz1 jz2 rfl (by decide) _ _ _ (by rfl) (ho1.alloc _) ⟨_, 0, none⟩ 1 1 (ints [x]) (by rfl) (by rfl) (cell_one_new _ _ _) ints_one (by unfold maxLen; omega) (by omega) (by have := hb1.size; simp; omega) ?_; intro v2 w2 ho2 hg2 hb2)
          | (refine step_append_below _ w w.heap.size hb1 (by rfl) _ _ 24 (by rfl) 3 i0 (.int .i64 0) 1 8 Try.underlying24 ji jz0 jz1 jz2 rfl (by decide) _ _ _ (by rfl) ho1 ⟨_, 0, none⟩ 1 1 (ints [x]) (by rfl) (by rfl) (by intro j u hu; rcases j with _ | j; (rw [add_at rfl, hg1.cell_far ⟨_, _, none⟩ (by simp; try omega) (by simp [Value.ownBlock]; try omega)]; simp [ints] at hu; subst hu; simp [go_sem]); (simp [ints] at hu)) ints_one (by unfold maxLen; omega) (by omega) hb1.size ?_; intro v2 w2 ho2 hg2 hb2)
          | (refine step_append_below _ w w.heap.size hb2 (by rfl) _ _ 24 (by rfl) 3 i0 (.int .i64 0) 1 8 Try.underlying24 ji jz0 jz1 jz2 rfl (by decide) _ _ _ (by rfl) ho2 ⟨b0, off0 + k, none⟩ (l.length - k) _ (ints (l.drop k)) (by rfl) (by simp [length_ints]) (news_drop (hA.later hb2) k) ints_one (by unfold maxLen; omega) (by omega) hb2.size ?_; intro v3 w3 ho3 hg3 hb3))
        all_goals
          obtain ⟨g3, c3, rfl, hi3, hr3, hm3, hlo3⟩ := put_end hk ho3
          have HI := Lib.hid hi3; clear hi3
          clear ho3 ho2 ho1 hg1 hg2 hg3
          go_wp2
          go_ret
          exact ⟨g3, 0, c3, by rw [HE.out]; rfl, by rw [HE.out]; exact HI.out, by rw [HE.out]; exact hr3, hm3, hb3, .inr hlo3⟩
theorem l1Put_c (b0 off0 cap : Nat) (l : List Int) (x : Int) (w : World) (hA : IC w (some ⟨b0, off0, none⟩) l) (hl : l.length ≤ 1000) (hcap : l.length ≤ cap) (hc63 : cap ≤ maxLen) :
    Calls Try.prog 279 #[.slice (some ⟨b0, off0, none⟩) l.length cap, .int .i64 x] w fun e w' => ∃ b' off' c', e = .returned (.slice (some ⟨b', off', none⟩) (putL l x).length c') ∧ IC w' (some ⟨b', off', none⟩) (putL l x) ∧ (putL l x).length ≤ c' ∧ c' ≤ maxLen ∧ Below w.heap.size w w' :=
  (l1PutB_c b0 off0 cap l x w hA hl hcap hc63).mono fun _ _ ⟨b', off', c', h1, h2, h3, h4, h5, _⟩ => ⟨b', off', c', h1, h2, h3, h4, h5⟩
end Go.Proofs.Ytmilpahggceemaa

namespace Go.KD
def xorV (a b : Int) : Int := ((a.toNat ^^^ b.toNat : Nat) : Int)
theorem xorV_bits {a b : Int} (ha : 0 ≤ a ∧ a < 64) (hb : 0 ≤ b ∧ b < 64) : bits .xor .i64 a b = xorV a b := by
  obtain ⟨n, rfl⟩ := Int.eq_ofNat_of_zero_le ha.1
  obtain ⟨k, rfl⟩ := Int.eq_ofNat_of_zero_le hb.1
  rw [i64_xor n k (by omega) (by omega)]
  simp [xorV]
/-- The nodes next to x by a gate that is open. -/
def adjG (x l : Int) (s : Nat) (g : D4) : Nat :=
  if openB g l then (if g.2.1 = x then setN (if g.1 = x then setN s g.2.1 else s) g.1 else (if g.1 = x then setN s g.2.1 else s)) else s
def nbK (gs : List D4) (x l : Int) (k : Nat) : Nat := (gs.take k).foldl (adjG x l) 0
def actsL (m : Wk) (x l : Int) : List Int := (if m.pulls[x.toNat]! = 0 then [] else [-1]) ++ mem (nbK m.gates x l m.gates.length)
noncomputable def visitB (m : Wk) (x l : Int) : Bool := worksB m && inB x 0 (m.size - 1) && setB l
theorem nb_step {gs : List D4} {x l : Int} {k : Nat} (hk : k < gs.length) : nbK gs x l (k + 1) = adjG x l (nbK gs x l k) gs[k]! := by
  unfold nbK
  rw [take_snoc hk, List.foldl_append]
  rfl
theorem nb_lt {m : Wk} (ok : WkOk m) (x l : Int) : ∀ k, k ≤ m.gates.length → nbK m.gates x l k < 4096
  | 0, _ => by simp [nbK]
  | k + 1, hk => by
    have ih := nb_lt ok x l k (by omega)
    rw [nb_step (by omega)]
    obtain ⟨a, b, c, d, hg⟩ : ∃ a b c d, m.gates[k]! = (a, b, c, d) := ⟨_, _, _, _, rfl⟩
    have f := gate_facts ok (by omega) hg
    have hs := ok.s2
    have ha : 0 ≤ a ∧ a < 12 := by omega
    have hb : 0 ≤ b ∧ b < 12 := by omega
    rw [hg]
    unfold adjG
    dsimp only
    split
    · split <;> split <;> first | exact ih | exact setN_lt ih ha | exact setN_lt ih hb | exact setN_lt (setN_lt ih hb) ha
    · exact ih
end Go.KD
namespace Go.Proofs.Ytmilpahggceemaa
open Go.RowKit Go.KD
attribute [local go_sem] later_cell later_frozen
set_option maxHeartbeats 1000000 in
theorem isVisitOf_c (v : Value) (m : Wk) (x l : Int) (w : World) (hm : WkAt w v m) : Calls Try.prog 158 #[v, .int .i64 x, .int .i64 l] w fun e w' => e = .returned (.bool (visitB m x l)) ∧ Below w.heap.size w w' := by
  have hM := hm
  obtain ⟨⟨ad, cd, ak, ck, rfl, hd, hk'⟩, nd, nk⟩ := hM
  obtain ⟨s, gs, ps⟩ := m
  dsimp only at *
  cases b1 : worksB ⟨s, gs, ps⟩
  · go_enter Try.func158, Try.ntmps158
    go_wp2_with (first | (go_at_call 52; refine (isWorks_c _ ⟨s, gs, ps⟩ _ (hm.later (by (repeat (first | exact Below.refl _ _ | apply Below.drew | apply below_drewN | (refine Below.setCell ?_ (by first | omega | (simp; done) | (simp; omega) | (dsimp only; omega)) _) | (refine Below.alloc ?_ (by first | omega | (simp; done) | (simp; omega) | (dsimp only; omega)) _)))))).mono ?_; rintro e w1 ⟨rfl, hb1⟩; obtain ⟨hc1, hf1, hz1⟩ := bcell3 hb1; have HB1 : Hid (Below w.heap.size w w1) := below_then (by (repeat (first | exact Below.refl _ _ | apply Below.drew | apply below_drewN | (refine Below.setCell ?_ (by first | omega | (simp; done) | (simp; omega) | (dsimp only; omega)) _) | (refine Below.alloc ?_ (by first | omega | (simp; done) | (simp; omega) | (dsimp only; omega)) _)))) hb1) | (go_at_call 145; refine (within_c _ _ _ _).mono ?_; rintro e w2 ⟨rfl, rfl⟩) | (go_at_call 137; refine (isSet_c _ _).mono ?_; rintro e w3 ⟨rfl, rfl⟩))
    go_ret
    exact ⟨ret_bool (by simp [visitB, b1]), HB1.out⟩
  have ok := worksB_true.1 b1
  have hs1 : 1 ≤ s := ok.s1
  have hs2 : s ≤ 12 := ok.s2
  clear ok
  cases b2 : inB x 0 (s - 1)
  · go_enter Try.func158, Try.ntmps158
    go_wp2_with (first | (go_at_call 52; refine (isWorks_c _ ⟨s, gs, ps⟩ _ (hm.later (by (repeat (first | exact Below.refl _ _ | apply Below.drew | apply below_drewN | (refine Below.setCell ?_ (by first | omega | (simp; done) | (simp; omega) | (dsimp only; omega)) _) | (refine Below.alloc ?_ (by first | omega | (simp; done) | (simp; omega) | (dsimp only; omega)) _)))))).mono ?_; rintro e w1 ⟨rfl, hb1⟩; obtain ⟨hc1, hf1, hz1⟩ := bcell3 hb1; have HB1 : Hid (Below w.heap.size w w1) := below_then (by (repeat (first | exact Below.refl _ _ | apply Below.drew | apply below_drewN | (refine Below.setCell ?_ (by first | omega | (simp; done) | (simp; omega) | (dsimp only; omega)) _) | (refine Below.alloc ?_ (by first | omega | (simp; done) | (simp; omega) | (dsimp only; omega)) _)))) hb1) | (go_at_call 145; refine (within_c _ _ _ _).mono ?_; rintro e w2 ⟨rfl, rfl⟩) | (go_at_call 137; refine (isSet_c _ _).mono ?_; rintro e w3 ⟨rfl, rfl⟩))
    go_ret
    exact ⟨ret_bool (by simp [visitB, b1, b2]), HB1.out⟩
  · go_enter Try.func158, Try.ntmps158
    go_wp2_with (first | (go_at_call 52; refine (isWorks_c _ ⟨s, gs, ps⟩ _ (hm.later (by (repeat (first | exact Below.refl _ _ | apply Below.drew | apply below_drewN | (refine Below.setCell ?_ (by first | omega | (simp; done) | (simp; omega) | (dsimp only; omega)) _) | (refine Below.alloc ?_ (by first | omega | (simp; done) | (simp; omega) | (dsimp only; omega)) _)))))).mono ?_; rintro e w1 ⟨rfl, hb1⟩; obtain ⟨hc1, hf1, hz1⟩ := bcell3 hb1; have HB1 : Hid (Below w.heap.size w w1) := below_then (by (repeat (first | exact Below.refl _ _ | apply Below.drew | apply below_drewN | (refine Below.setCell ?_ (by first | omega | (simp; done) | (simp; omega) | (dsimp only; omega)) _) | (refine Below.alloc ?_ (by first | omega | (simp; done) | (simp; omega) | (dsimp only; omega)) _)))) hb1) | (go_at_call 145; refine (within_c _ _ _ _).mono ?_; rintro e w2 ⟨rfl, rfl⟩) | (go_at_call 137; refine (isSet_c _ _).mono ?_; rintro e w3 ⟨rfl, rfl⟩))
    go_ret
    exact ⟨ret_bool (by simp [visitB, b1, b2]), HB1.out⟩
set_option maxHeartbeats 1000000 in
theorem l8Visit_c (v : Value) (m : Wk) (x l : Int) (w : World) (hm : WkAt w v m) : Calls Try.prog 160 #[v, .int .i64 x, .int .i64 l] w fun e w' => e = .returned (.bool (visitB m x l)) ∧ Below w.heap.size w w' := by
  have hM := hm
  obtain ⟨⟨ad, cd, ak, ck, rfl, hd, hk'⟩, nd, nk⟩ := hM
  obtain ⟨s, gs, ps⟩ := m
  dsimp only at *
  cases b1 : worksB ⟨s, gs, ps⟩
  · go_enter Try.func160, Try.ntmps160
    go_wp2_with (first | (go_at_call 141; refine (l8Works_c _ ⟨s, gs, ps⟩ _ (hm.later (by (repeat (first | exact Below.refl _ _ | apply Below.drew | apply below_drewN | (refine Below.setCell ?_ (by first | omega | (simp; done) | (simp; omega) | (dsimp only; omega)) _) | (refine Below.alloc ?_ (by first | omega | (simp; done) | (simp; omega) | (dsimp only; omega)) _)))))).mono ?_; rintro e w1 ⟨rfl, hb1⟩; obtain ⟨hc1, hf1, hz1⟩ := bcell3 hb1; have HB1 : Hid (Below w.heap.size w w1) := below_then (by (repeat (first | exact Below.refl _ _ | apply Below.drew | apply below_drewN | (refine Below.setCell ?_ (by first | omega | (simp; done) | (simp; omega) | (dsimp only; omega)) _) | (refine Below.alloc ?_ (by first | omega | (simp; done) | (simp; omega) | (dsimp only; omega)) _)))) hb1) | (go_at_call 147; refine (l1In_c _ _ _ _).mono ?_; rintro e w2 ⟨rfl, rfl⟩) | (go_at_call 133; refine (l2Set_c _ _).mono ?_; rintro e w3 ⟨rfl, rfl⟩))
    go_ret
    exact ⟨ret_bool (by simp [visitB, b1]), HB1.out⟩
  have ok := worksB_true.1 b1
  have hs1 : 1 ≤ s := ok.s1
  have hs2 : s ≤ 12 := ok.s2
  clear ok
  cases b2 : inB x 0 (s - 1)
  · go_enter Try.func160, Try.ntmps160
    go_wp2_with (first | (go_at_call 141; refine (l8Works_c _ ⟨s, gs, ps⟩ _ (hm.later (by (repeat (first | exact Below.refl _ _ | apply Below.drew | apply below_drewN | (refine Below.setCell ?_ (by first | omega | (simp; done) | (simp; omega) | (dsimp only; omega)) _) | (refine Below.alloc ?_ (by first | omega | (simp; done) | (simp; omega) | (dsimp only; omega)) _)))))).mono ?_; rintro e w1 ⟨rfl, hb1⟩; obtain ⟨hc1, hf1, hz1⟩ := bcell3 hb1; have HB1 : Hid (Below w.heap.size w w1) := below_then (by (repeat (first | exact Below.refl _ _ | apply Below.drew | apply below_drewN | (refine Below.setCell ?_ (by first | omega | (simp; done) | (simp; omega) | (dsimp only; omega)) _) | (refine Below.alloc ?_ (by first | omega | (simp; done) | (simp; omega) | (dsimp only; omega)) _)))) hb1) | (go_at_call 147; refine (l1In_c _ _ _ _).mono ?_; rintro e w2 ⟨rfl, rfl⟩) | (go_at_call 133; refine (l2Set_c _ _).mono ?_; rintro e w3 ⟨rfl, rfl⟩))
    go_ret
    exact ⟨ret_bool (by simp [visitB, b1, b2]), HB1.out⟩
  · go_enter Try.func160, Try.ntmps160
    go_wp2_with (first | (go_at_call 141; refine (l8Works_c _ ⟨s, gs, ps⟩ _ (hm.later (by (repeat (first | exact Below.refl _ _ | apply Below.drew | apply below_drewN | (refine Below.setCell ?_ (by first | omega | (simp; done) | (simp; omega) | (dsimp only; omega)) _) | (refine Below.alloc ?_ (by first | omega | (simp; done) | (simp; omega) | (dsimp only; omega)) _)))))).mono ?_; rintro e w1 ⟨rfl, hb1⟩; obtain ⟨hc1, hf1, hz1⟩ := bcell3 hb1; have HB1 : Hid (Below w.heap.size w w1) := below_then (by (repeat (first | exact Below.refl _ _ | apply Below.drew | apply below_drewN | (refine Below.setCell ?_ (by first | omega | (simp; done) | (simp; omega) | (dsimp only; omega)) _) | (refine Below.alloc ?_ (by first | omega | (simp; done) | (simp; omega) | (dsimp only; omega)) _)))) hb1) | (go_at_call 147; refine (l1In_c _ _ _ _).mono ?_; rintro e w2 ⟨rfl, rfl⟩) | (go_at_call 133; refine (l2Set_c _ _).mono ?_; rintro e w3 ⟨rfl, rfl⟩))
    go_ret
    exact ⟨ret_bool (by simp [visitB, b1, b2]), HB1.out⟩
set_option maxRecDepth 100000 in
set_option maxHeartbeats 2000000 in
theorem grow_c (n : Nat) (h0 : 0 < n) (hn : n ≤ 100000) (w : World) : Calls Try.prog 318 #[.slice none 0 0, .int .i64 n] w fun e w' =>
    ∃ v, e = .returned v ∧ w'.ownsRow w.heap.size 3 1 v 0 [] ∧ Below w.heap.size w w' := by
  obtain ⟨i0, hi, hz0, hz1, hz2⟩ := info_parts infoI
  have h1 : decide ((n : Int) < 0) = false := by simp
  have h4 : decide ((n : Int) > 0) = true := by simp; omega
  have hold : (Builtin.firstCells i0.size 0 (.slice none 0 0)).run Try.prog w.drew = .ok #[] w.drew := run_firstCells_none w.drew i0.size 0 0 0
  have hrz : ∀ ty, (Builtin.append_ #[24, 3] ty #[.slice none 0 0, .int .i64 n]).run Try.prog w =
      .ok (.slice (some ⟨w.heap.size, 0, none⟩) n (grownCap w n 0 3)) (w.drew.alloc (.cells (#[] ++ Builtin.zeroCells (Value.int .i64 0).cells n ++ Builtin.zeroCells (Value.int .i64 0).cells (grownCap w n 0 3 - n)) 3)) := fun ty => by
    have h := Lib.run_append_grow_zeros w 24 3 ty 3 i0 (.int .i64 0) .i64 .i64 Try.underlying24 Try.underlying3 hi hz0 none 0 0 [] (by exact hold) n h0 (by rw [hz1]; omega) (by omega) (by omega)
      (by rw [hz2]; omega)
      (by rw [Nat.zero_add]; exact growslice_fits (by omega) (by rw [hz2]; omega))
    rw [Nat.zero_add] at h
    exact h
  have hGn : n ≤ grownCap w n 0 3 := by have := grownCap_ge w n 0 3; omega
  have hGm := grownCap_le_maxLen w n 0 3 (by unfold maxLen; omega)
  obtain ⟨G, hG⟩ : ∃ G, G = grownCap w n 0 3 := ⟨_, rfl⟩
  rw [← hG] at hrz hGn hGm
  have hG63 : G ≤ 9223372036854775807 := by unfold maxLen at hGm; omega
  have hG63' : (0 : Int) ≤ (G : Int) := by omega
  clear hold hG
  go_enter Try.func318, Try.ntmps318
  go_wp2_with (at_builtin; refine Lib.wpList_append_run _ rfl _ _ _ _ rfl _ _ rfl rfl _ _ (hrz _) ?_)
  go_ret
  refine ⟨_, rfl, ?_, ((Below.refl _ _).drew).alloc (Nat.le_refl _) _⟩
  exact World.ownsRow_made w.drew _ _ (Nat.le_refl _) hGm (by simp only [Array.size_append, size_zeroCells, List.size_toArray, List.length_nil]; simp only [List.length_singleton]; omega)
end Go.Proofs.Ytmilpahggceemaa
