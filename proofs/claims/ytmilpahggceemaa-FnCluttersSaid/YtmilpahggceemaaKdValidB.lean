/- Contracts of the validity of works and mazes. -/
import Derived.Test.YtmilpahggceemaaKdWorks2
set_option linter.unusedVariables false
set_option linter.unusedSimpArgs false
namespace Go.Proofs.Ytmilpahggceemaa
open Go.RowKit Go.KD
attribute [local go_sem] later_cell later_frozen
set_option maxHeartbeats 8000000 in
theorem l2Maze_c (v : Value) (m : Mz) (w : World) (hm : MzAt w v m) : Calls Try.prog 225 #[v] w fun e w' => e = .returned (.bool (mazeB m)) ∧ Below w.heap.size w w' := by
  obtain ⟨⟨ad, cd, ak, ck, rfl, hd, hk⟩, nd, nk⟩ := hm
  obtain ⟨s, gs, ps⟩ := m
  dsimp only at *
  by_cases h1 : 1 ≤ s ∧ s ≤ 12
  · have b1 : inB s 1 12 = true := inB_true.2 h1
    obtain ⟨hs1, hs2⟩ := h1
    by_cases h2 : gs.length ≤ 30
    · have b2 : decide (30 < (gs.length : Int)) = false := by simp; omega
      by_cases h3 : (ps.length : Int) = s
      · have b3 : ((ps.length : Int) != s) = false := by simp [h3]
        have H3 := Lib.hid h3; clear h3
        go_enter Try.func225, Try.ntmps225
        go_wp2_with (go_at_call 147; refine (l1In_c _ _ _ _).mono ?_; rintro e w1 ⟨rfl, rfl⟩)
        go_loopw [3] (fun i wr => ∃ k : Nat, k ≤ gs.length ∧ i = .int .i64 k ∧ Below (w.heap.size + 1) (w.alloc (.cells #[.int .i64 s, .slice ad gs.length cd, .slice ak ps.length ck] 75)) wr ∧ Hid (∀ j, j < k → doorB s gs j = true)) (fun i _ => gs.length - (intOf i).toNat)
        case atStart => exact ⟨0, Nat.zero_le _, rfl, Below.refl _ _, fun j hj => by omega⟩
        case round =>
          obtain ⟨k, hkl, rfl, hb, HK⟩ := hrel
          obtain ⟨hc, hf, hz⟩ := bcell3 hb
          simp only [World.size_alloc] at hz
          have hz1 : w.heap.size < wr.heap.size := by omega
          have HB : Hid (Below w.heap.size w wr) := (by (repeat (first | exact Below.refl _ _ | apply Below.drew | apply below_drewN | (refine Below.setCell ?_ (by first | omega | (simp; done) | (simp; omega) | (dsimp only; omega)) _) | (refine Below.alloc ?_ (by first | omega | (simp; done) | (simp; omega) | (dsimp only; omega)) _))) : Below w.heap.size w (w.alloc _)).trans (hb.mono (by omega))
          by_cases hlt : k < gs.length
          · obtain ⟨b, off, x, y, z, rfl, HX, hbs, e0, e1, e2⟩ := (hd.later HB.out).at k hlt
            have hz2 : w.heap.size < wr.heap.size + 1 := by omega
            have hbs2 : b < wr.heap.size + 1 := by omega
            have HG := Lib.hid (doorB_eq (size := s) HX.out)
            cases p1 : inB x 0 (s - 1)
            case false =>
              go_wp2
              refine wp_region_later (wr.heap.size + 1) (by kernel_rfl) (by kernel_rfl) ?_
              repeat (first | go_big_quiet_skip | (go_big_quiet_want; go_big_quiet_op; (first | go_big_quiet_on | (apply Exists.intro; refine ⟨fun W => ?_, ?_⟩; (first | (go_at_call 147; exact Calls.later_same (l1In_c _ _ _ _)) | (go_at_call 133; exact Calls.later_same (l2Set_c _ _)) | (go_at_call 295; exact Calls.later_of (by simp) (l2Before_c _ _ _ _ _ _ _))); go_big_quiet_on))))
              refine wpQuiet_nil ?_; rintro _ ⟨⟨w9, hb9⟩, rfl⟩; obtain ⟨hc9, hf9, hz9⟩ := bcell3 hb9
              go_wp2
              go_ret
              exact ⟨ret_bool (mazeB_no fun h => by have := h.dr k hlt; rw [HG.out] at this; simp_all).symm, HB.out.trans ((((Below.refl _ _).alloc (Nat.le_refl _) _).trans (hb9.mono (by simp))).mono (by omega))⟩
            case true =>
              obtain ⟨q0a, q0b⟩ := inB_true.1 p1
              cases p2 : inB y (x + 1) (s - 1)
              case false =>
                go_wp2
                refine wp_region_later (wr.heap.size + 1) (by kernel_rfl) (by kernel_rfl) ?_
                repeat (first | go_big_quiet_skip | (go_big_quiet_want; go_big_quiet_op; (first | go_big_quiet_on | (apply Exists.intro; refine ⟨fun W => ?_, ?_⟩; (first | (go_at_call 147; exact Calls.later_same (l1In_c _ _ _ _)) | (go_at_call 133; exact Calls.later_same (l2Set_c _ _)) | (go_at_call 295; exact Calls.later_of (by simp) (l2Before_c _ _ _ _ _ _ _))); go_big_quiet_on))))
                refine wpQuiet_nil ?_; rintro _ ⟨⟨w9, hb9⟩, rfl⟩; obtain ⟨hc9, hf9, hz9⟩ := bcell3 hb9
                go_wp2
                go_ret
                exact ⟨ret_bool (mazeB_no fun h => by have := h.dr k hlt; rw [HG.out] at this; simp_all).symm, HB.out.trans ((((Below.refl _ _).alloc (Nat.le_refl _) _).trans (hb9.mono (by simp))).mono (by omega))⟩
              case true =>
                obtain ⟨q1a, q1b⟩ := inB_true.1 p2
                cases p3 : setB z
                case false =>
                  go_wp2
                  refine wp_region_later (wr.heap.size + 1) (by kernel_rfl) (by kernel_rfl) ?_
                  repeat (first | go_big_quiet_skip | (go_big_quiet_want; go_big_quiet_op; (first | go_big_quiet_on | (apply Exists.intro; refine ⟨fun W => ?_, ?_⟩; (first | (go_at_call 147; exact Calls.later_same (l1In_c _ _ _ _)) | (go_at_call 133; exact Calls.later_same (l2Set_c _ _)) | (go_at_call 295; exact Calls.later_of (by simp) (l2Before_c _ _ _ _ _ _ _))); go_big_quiet_on))))
                  refine wpQuiet_nil ?_; rintro _ ⟨⟨w9, hb9⟩, rfl⟩; obtain ⟨hc9, hf9, hz9⟩ := bcell3 hb9
                  go_wp2
                  go_ret
                  exact ⟨ret_bool (mazeB_no fun h => by have := h.dr k hlt; rw [HG.out] at this; simp_all).symm, HB.out.trans ((((Below.refl _ _).alloc (Nat.le_refl _) _).trans (hb9.mono (by simp))).mono (by omega))⟩
                case true =>
                  rcases Nat.eq_zero_or_pos k with hk0 | hk0
                  · have hki : decide (0 < k) = false := by simp; omega
                    have hki2 : decide ((0 : Int) < (k : Int)) = false := by simp; omega
                    have HK0 := Lib.hid hk0; clear hk0
                    go_wp2
                    refine wp_region_later (wr.heap.size + 1) (by kernel_rfl) (by kernel_rfl) ?_
                    repeat (first | go_big_quiet_skip | (go_big_quiet_want; go_big_quiet_op; (first | go_big_quiet_on | (apply Exists.intro; refine ⟨fun W => ?_, ?_⟩; (first | (go_at_call 147; exact Calls.later_same (l1In_c _ _ _ _)) | (go_at_call 133; exact Calls.later_same (l2Set_c _ _)) | (go_at_call 295; exact Calls.later_of (by simp) (l2Before_c _ _ _ _ _ _ _))); go_big_quiet_on))))
                    refine wpQuiet_nil ?_; rintro _ ⟨⟨w9, hb9⟩, rfl⟩; obtain ⟨hc9, hf9, hz9⟩ := bcell3 hb9
                    go_wp2
                    go_roundw
                    case rel => exact ⟨k+1, by omega, by go_num, (hb.trans ((((Below.refl _ _).alloc (Nat.le_refl _) _).trans (hb9.mono (by simp))).mono (by omega))), fun j hj => by
                      rcases Nat.lt_or_ge j k with h | h
                      · exact HK.out j h
                      · obtain rfl : j = k := by omega
                        rw [HG.out]; have := HK0.out; simp_all⟩
                    case measure => simp [intOf]; omega
                  · obtain ⟨b2, off2, x', y', z', hb2, HY, _, f0, f1, f2⟩ := (hd.later HB.out).at (k - 1) (by omega)
                    obtain ⟨rfl, rfl⟩ : b = b2 ∧ off = off2 := by simpa using hb2
                    clear hb2
                    have hki : (0 : Int) < (k : Int) := by omega
                    have HG2 := Lib.hid (HG.out.trans (by rw [HY.out]))
                    clear HG; have HG := HG2; clear HG2
                    cases p9 : lt3 (x', y', z') (x, y, z)
                    case false =>
                      go_wp2
                      refine wp_region_later (wr.heap.size + 1) (by kernel_rfl) (by kernel_rfl) ?_
                      repeat (first | go_big_quiet_skip | (go_big_quiet_want; go_big_quiet_op; (first | go_big_quiet_on | (apply Exists.intro; refine ⟨fun W => ?_, ?_⟩; (first | (go_at_call 147; exact Calls.later_same (l1In_c _ _ _ _)) | (go_at_call 133; exact Calls.later_same (l2Set_c _ _)) | (go_at_call 295; exact Calls.later_of (by simp) (l2Before_c _ _ _ _ _ _ _))); go_big_quiet_on))))
                      refine wpQuiet_nil ?_; rintro _ ⟨⟨w9, hb9⟩, rfl⟩; obtain ⟨hc9, hf9, hz9⟩ := bcell3 hb9
                      go_wp2
                      go_ret
                      exact ⟨ret_bool (mazeB_no fun h => by have := h.dr k hlt; rw [HG.out] at this; simp_all).symm, HB.out.trans ((((Below.refl _ _).alloc (Nat.le_refl _) _).trans (hb9.mono (by simp))).mono (by omega))⟩
                    case true =>
                      go_wp2
                      refine wp_region_later (wr.heap.size + 1) (by kernel_rfl) (by kernel_rfl) ?_
                      repeat (first | go_big_quiet_skip | (go_big_quiet_want; go_big_quiet_op; (first | go_big_quiet_on | (apply Exists.intro; refine ⟨fun W => ?_, ?_⟩; (first | (go_at_call 147; exact Calls.later_same (l1In_c _ _ _ _)) | (go_at_call 133; exact Calls.later_same (l2Set_c _ _)) | (go_at_call 295; exact Calls.later_of (by simp) (l2Before_c _ _ _ _ _ _ _))); go_big_quiet_on))))
                      refine wpQuiet_nil ?_; rintro _ ⟨⟨w9, hb9⟩, rfl⟩; obtain ⟨hc9, hf9, hz9⟩ := bcell3 hb9
                      go_wp2
                      go_roundw
                      case rel => exact ⟨k+1, by omega, by go_num, (hb.trans ((((Below.refl _ _).alloc (Nat.le_refl _) _).trans (hb9.mono (by simp))).mono (by omega))), fun j hj => by
                        rcases Nat.lt_or_ge j k with h | h
                        · exact HK.out j h
                        · obtain rfl : j = k := by omega
                          rw [HG.out]; simp_all⟩
                      case measure => simp [intOf]; omega
          · obtain rfl : k = gs.length := by omega
            go_wp2
            obtain ⟨wo, hwo⟩ : ∃ wo : World, wo = wr := ⟨_, rfl⟩
            have HWO := Lib.hid hwo; clear hwo
            go_loop [5] (fun i => ∃ j : Nat, j ≤ ps.length ∧ i = .int .i64 j ∧ Hid (∀ t, t < j → setB ps[t]! = true)) (fun i => ps.length - (intOf i).toNat)
            case atStart => exact ⟨0, Nat.zero_le _, rfl, fun j hj => by omega⟩
            case round =>
              obtain ⟨j, hj, rfl, HJ⟩ := hrel
              by_cases hlt2 : j < ps.length
              · have hji : (j : Int) < s := by have := H3.out; omega
                obtain ⟨b, off, x, rfl, HX, hbs, e0⟩ := (hk.later HB.out).at j hlt2
                cases p1 : setB x
                · go_wp2_with (go_at_call 133; refine (l2Set_c _ _).mono ?_; rintro e w1 ⟨rfl, rfl⟩)
                  go_ret
                  exact ⟨ret_bool (mazeB_no fun h => by have := h.ks j hlt2; rw [HX.out] at this; simp_all).symm, HB.out⟩
                · go_wp2_with (go_at_call 133; refine (l2Set_c _ _).mono ?_; rintro e w1 ⟨rfl, rfl⟩)
                  go_round
                  case rel => exact ⟨j+1, by omega, by go_num, fun t ht => by
                    rcases Nat.lt_or_ge t j with h | h
                    · exact HJ.out t h
                    · obtain rfl : t = j := by omega
                      rw [HX.out]; exact p1⟩
                  case measure => simp [intOf]; omega
              · have hji : ¬ (j : Int) < s := by have := H3.out; omega
                go_wp2
                go_ret
                exact ⟨ret_bool (mazeB_true.2 ⟨hs1, hs2, h2, H3.out, HK.out, fun t ht => HJ.out t (by have : t < ps.length := ht; omega)⟩).symm, HB.out⟩
      · have b3 : ((ps.length : Int) != s) = true := by simpa using h3
        go_enter Try.func225, Try.ntmps225
        go_wp2_with ((go_at_call 147; refine (l1In_c _ _ _ _).mono ?_; rintro e w1 ⟨rfl, rfl⟩))
        go_ret
        exact ⟨ret_bool (mazeB_no fun h => h3 h.nk).symm, by (repeat (first | exact Below.refl _ _ | apply Below.drew | apply below_drewN | (refine Below.setCell ?_ (by first | omega | (simp; done) | (simp; omega) | (dsimp only; omega)) _) | (refine Below.alloc ?_ (by first | omega | (simp; done) | (simp; omega) | (dsimp only; omega)) _)))⟩
    · have b2 : decide (30 < (gs.length : Int)) = true := by simp; omega
      go_enter Try.func225, Try.ntmps225
      go_wp2_with ((go_at_call 147; refine (l1In_c _ _ _ _).mono ?_; rintro e w1 ⟨rfl, rfl⟩))
      go_ret
      exact ⟨ret_bool (mazeB_no fun h => h2 h.nd).symm, by (repeat (first | exact Below.refl _ _ | apply Below.drew | apply below_drewN | (refine Below.setCell ?_ (by first | omega | (simp; done) | (simp; omega) | (dsimp only; omega)) _) | (refine Below.alloc ?_ (by first | omega | (simp; done) | (simp; omega) | (dsimp only; omega)) _)))⟩
  · have b1 : inB s 1 12 = false := inB_false.2 h1
    go_enter Try.func225, Try.ntmps225
    go_wp2_with ((go_at_call 147; refine (l1In_c _ _ _ _).mono ?_; rintro e w1 ⟨rfl, rfl⟩))
    go_ret
    exact ⟨ret_bool (mazeB_no fun h => h1 ⟨h.s1, h.s2⟩).symm, by (repeat (first | exact Below.refl _ _ | apply Below.drew | apply below_drewN | (refine Below.setCell ?_ (by first | omega | (simp; done) | (simp; omega) | (dsimp only; omega)) _) | (refine Below.alloc ?_ (by first | omega | (simp; done) | (simp; omega) | (dsimp only; omega)) _)))⟩
end Go.Proofs.Ytmilpahggceemaa
