/- Contracts of the validity of works and mazes. -/
import Derived.Test.YtmilpahggceemaaKdWorks2
set_option linter.unusedVariables false
set_option linter.unusedSimpArgs false
namespace Go.Proofs.Ytmilpahggceemaa
open Go.RowKit Go.KD
attribute [local go_sem] later_cell later_frozen
theorem isMazeK_c (x : Int) (w : World) : Calls Try.prog 294 #[.int .i64 x] w fun e w' => e = .returned (.bool (!setB x)) ∧ Below w.heap.size w w' := by
  go_enter Try.func294, Try.ntmps294
  go_wp2_with (go_at_call 137; refine (isSet_c _ _).mono ?_; rintro e w1 ⟨rfl, rfl⟩)
  go_ret
  exact ⟨ret_bool rfl, Below.refl _ _⟩
theorem keys_last {s : Int} {gs : List D3} {ps : List Int} (h1 : 1 ≤ s) (h2 : s ≤ 12) (h3 : gs.length ≤ 30) (h4 : (ps.length : Int) = s) (h5 : ∀ j, j < gs.length → doorB s gs j = true) : (!anyP (fun x => !setB x) ps) = mazeB ⟨s, gs, ps⟩ := by
  rw [Bool.eq_iff_iff, mazeB_true]
  constructor
  · intro h
    refine ⟨h1, h2, h3, h4, h5, fun t ht => ?_⟩
    simp only [anyP, Bool.not_eq_true', List.any_eq_false] at h
    have := h ps[t] (List.getElem_mem ht)
    rw [getElem!_pos _ t ht]; simpa using this
  · intro h
    simp only [anyP, Bool.not_eq_true', List.any_eq_false]
    intro x hx
    obtain ⟨j, hj, rfl⟩ := List.mem_iff_getElem.1 hx
    have := h.ks j hj
    rw [getElem!_pos _ j hj] at this
    simpa using this
set_option maxHeartbeats 8000000 in
theorem isMaze_c (v : Value) (m : Mz) (w : World) (hm : MzAt w v m) : Calls Try.prog 223 #[v] w fun e w' => e = .returned (.bool (mazeB m)) ∧ Below w.heap.size w w' := by
  obtain ⟨⟨ad, cd, ak, ck, rfl, hd, hk⟩, nd, nk⟩ := hm
  obtain ⟨s, gs, ps⟩ := m
  dsimp only at *
  by_cases h1 : 1 ≤ s ∧ s ≤ 12
  · have b1 : inB s 1 12 = true := inB_true.2 h1
    obtain ⟨hs1, hs2⟩ := h1
    by_cases h2 : gs.length ≤ 30
    · have b2 : decide (30 < (gs.length : Int)) = false := by simp; omega
      by_cases h3 : (ps.length : Int) = s
      · have b3 : ((ps.length : Int) != s) = false := by simp [h3]
        have H3 := Lib.hid h3; clear h3
        go_enter Try.func223, Try.ntmps223
        go_wp2_with (go_at_call 145; refine (within_c _ _ _ _).mono ?_; rintro e w1 ⟨rfl, rfl⟩)
        go_loopw [3, 26] (fun _ i wr => ∃ k : Nat, k ≤ gs.length ∧ i = .int .i64 k ∧ Below (w.heap.size + 1) (w.alloc (.cells #[.int .i64 s, .slice ad gs.length cd, .slice ak ps.length ck] 75)) wr ∧ Hid (∀ j, j < k → doorB s gs j = true)) (fun _ i _ => gs.length - (intOf i).toNat)
        case atStart => exact ⟨0, Nat.zero_le _, rfl, Below.refl _ _, fun j hj => by omega⟩
        case round =>
          obtain ⟨k, hkl, rfl, hb, HK⟩ := hrel
          obtain ⟨hc, hf, hz⟩ := bcell3 hb
          simp only [World.size_alloc] at hz
          have hz1 : w.heap.size < wr.heap.size := by omega
          have HB : Hid (Below w.heap.size w wr) := (by (repeat (first | exact Below.refl _ _ | apply Below.drew | apply below_drewN | (refine Below.setCell ?_ (by first | omega | (simp; done) | (simp; omega) | (dsimp only; omega)) _) | (refine Below.alloc ?_ (by first | omega | (simp; done) | (simp; omega) | (dsimp only; omega)) _))) : Below w.heap.size w (w.alloc _)).trans (hb.mono (by omega))
          by_cases hlt : k < gs.length
          · obtain ⟨b, off, x, y, z, rfl, HX, hbs, e0, e1, e2⟩ := (hd.later HB.out).at k hlt
            have hz2 : w.heap.size < wr.heap.size + 1 := by omega
            have hbs2 : b < wr.heap.size + 1 := by omega
            have HG := Lib.hid (doorB_impl (size := s) HX.out)
            cases p1 : decide (x < 0)
            case true =>
              go_wp2
              refine wp_region_later (wr.heap.size + 1) (by kernel_rfl) (by kernel_rfl) ?_
              repeat (first | go_big_quiet_skip | (go_big_quiet_want; go_big_quiet_op; (first | go_big_quiet_on | (apply Exists.intro; refine ⟨fun W => ?_, ?_⟩; (first | (go_at_call 145; exact Calls.later_same (within_c _ _ _ _)) | (go_at_call 137; exact Calls.later_same (isSet_c _ _)) | (go_at_call 293; exact Calls.later_of (by simp) (compareDoors_c _ _ _ _ _ _ _))); go_big_quiet_on))))
              refine wpQuiet_nil ?_; rintro _ ⟨⟨w9, hb9⟩, rfl⟩; obtain ⟨hc9, hf9, hz9⟩ := bcell3 hb9
              go_wp2
              go_ret
              exact ⟨ret_bool (mazeB_no fun h => by have := h.dr k hlt; rw [HG.out] at this; simp_all).symm, HB.out.trans ((((Below.refl _ _).alloc (Nat.le_refl _) _).trans (hb9.mono (by simp))).mono (by omega))⟩
            case false =>
              cases p2 : decide (y ≤ x)
              case true =>
                go_wp2
                refine wp_region_later (wr.heap.size + 1) (by kernel_rfl) (by kernel_rfl) ?_
                repeat (first | go_big_quiet_skip | (go_big_quiet_want; go_big_quiet_op; (first | go_big_quiet_on | (apply Exists.intro; refine ⟨fun W => ?_, ?_⟩; (first | (go_at_call 145; exact Calls.later_same (within_c _ _ _ _)) | (go_at_call 137; exact Calls.later_same (isSet_c _ _)) | (go_at_call 293; exact Calls.later_of (by simp) (compareDoors_c _ _ _ _ _ _ _))); go_big_quiet_on))))
                refine wpQuiet_nil ?_; rintro _ ⟨⟨w9, hb9⟩, rfl⟩; obtain ⟨hc9, hf9, hz9⟩ := bcell3 hb9
                go_wp2
                go_ret
                exact ⟨ret_bool (mazeB_no fun h => by have := h.dr k hlt; rw [HG.out] at this; simp_all).symm, HB.out.trans ((((Below.refl _ _).alloc (Nat.le_refl _) _).trans (hb9.mono (by simp))).mono (by omega))⟩
              case false =>
                cases p3 : decide (s ≤ y)
                case true =>
                  go_wp2
                  refine wp_region_later (wr.heap.size + 1) (by kernel_rfl) (by kernel_rfl) ?_
                  repeat (first | go_big_quiet_skip | (go_big_quiet_want; go_big_quiet_op; (first | go_big_quiet_on | (apply Exists.intro; refine ⟨fun W => ?_, ?_⟩; (first | (go_at_call 145; exact Calls.later_same (within_c _ _ _ _)) | (go_at_call 137; exact Calls.later_same (isSet_c _ _)) | (go_at_call 293; exact Calls.later_of (by simp) (compareDoors_c _ _ _ _ _ _ _))); go_big_quiet_on))))
                  refine wpQuiet_nil ?_; rintro _ ⟨⟨w9, hb9⟩, rfl⟩; obtain ⟨hc9, hf9, hz9⟩ := bcell3 hb9
                  go_wp2
                  go_ret
                  exact ⟨ret_bool (mazeB_no fun h => by have := h.dr k hlt; rw [HG.out] at this; simp_all).symm, HB.out.trans ((((Below.refl _ _).alloc (Nat.le_refl _) _).trans (hb9.mono (by simp))).mono (by omega))⟩
                case false =>
                  cases p4 : setB z
                  case false =>
                    go_wp2
                    refine wp_region_later (wr.heap.size + 1) (by kernel_rfl) (by kernel_rfl) ?_
                    repeat (first | go_big_quiet_skip | (go_big_quiet_want; go_big_quiet_op; (first | go_big_quiet_on | (apply Exists.intro; refine ⟨fun W => ?_, ?_⟩; (first | (go_at_call 145; exact Calls.later_same (within_c _ _ _ _)) | (go_at_call 137; exact Calls.later_same (isSet_c _ _)) | (go_at_call 293; exact Calls.later_of (by simp) (compareDoors_c _ _ _ _ _ _ _))); go_big_quiet_on))))
                    refine wpQuiet_nil ?_; rintro _ ⟨⟨w9, hb9⟩, rfl⟩; obtain ⟨hc9, hf9, hz9⟩ := bcell3 hb9
                    go_wp2
                    go_ret
                    exact ⟨ret_bool (mazeB_no fun h => by have := h.dr k hlt; rw [HG.out] at this; simp_all).symm, HB.out.trans ((((Below.refl _ _).alloc (Nat.le_refl _) _).trans (hb9.mono (by simp))).mono (by omega))⟩
                  case true =>
                    rcases Nat.eq_zero_or_pos k with hk0 | hk0
                    · have hki : decide (0 < k) = false := by simp; omega
                      have hki2 : decide ((0 : Int) < (k : Int)) = false := by simp; omega
                      have HK0 := Lib.hid hk0; clear hk0
                      go_wp2
                      refine wp_region_later (wr.heap.size + 1) (by kernel_rfl) (by kernel_rfl) ?_
                      repeat (first | go_big_quiet_skip | (go_big_quiet_want; go_big_quiet_op; (first | go_big_quiet_on | (apply Exists.intro; refine ⟨fun W => ?_, ?_⟩; (first | (go_at_call 145; exact Calls.later_same (within_c _ _ _ _)) | (go_at_call 137; exact Calls.later_same (isSet_c _ _)) | (go_at_call 293; exact Calls.later_of (by simp) (compareDoors_c _ _ _ _ _ _ _))); go_big_quiet_on))))
                      refine wpQuiet_nil ?_; rintro _ ⟨⟨w9, hb9⟩, rfl⟩; obtain ⟨hc9, hf9, hz9⟩ := bcell3 hb9
                      go_wp2
                      go_roundw
                      case rel => exact ⟨k+1, by omega, by go_num, (hb.trans ((((Below.refl _ _).alloc (Nat.le_refl _) _).trans (hb9.mono (by simp))).mono (by omega))), fun j hj => by
                        rcases Nat.lt_or_ge j k with h | h
                        · exact HK.out j h
                        · obtain rfl : j = k := by omega
                          rw [HG.out]; have := HK0.out; simp_all⟩
                      case measure => simp [intOf]; omega
                    · obtain ⟨b2, off2, x', y', z', hb2, HY, _, f0, f1, f2⟩ := (hd.later HB.out).at (k - 1) (by omega)
                      obtain ⟨rfl, rfl⟩ : b = b2 ∧ off = off2 := by simpa using hb2
                      clear hb2
                      have hki : (0 : Int) < (k : Int) := by omega
                      have HG2 := Lib.hid (HG.out.trans (by rw [HY.out]))
                      clear HG; have HG := HG2; clear HG2
                      cases p9 : decide (0 ≤ cmp3 (x', y', z') (x, y, z))
                      case true =>
                        go_wp2
                        refine wp_region_later (wr.heap.size + 1) (by kernel_rfl) (by kernel_rfl) ?_
                        repeat (first | go_big_quiet_skip | (go_big_quiet_want; go_big_quiet_op; (first | go_big_quiet_on | (apply Exists.intro; refine ⟨fun W => ?_, ?_⟩; (first | (go_at_call 145; exact Calls.later_same (within_c _ _ _ _)) | (go_at_call 137; exact Calls.later_same (isSet_c _ _)) | (go_at_call 293; exact Calls.later_of (by simp) (compareDoors_c _ _ _ _ _ _ _))); go_big_quiet_on))))
                        refine wpQuiet_nil ?_; rintro _ ⟨⟨w9, hb9⟩, rfl⟩; obtain ⟨hc9, hf9, hz9⟩ := bcell3 hb9
                        go_wp2
                        go_ret
                        exact ⟨ret_bool (mazeB_no fun h => by have := h.dr k hlt; rw [HG.out] at this; simp_all).symm, HB.out.trans ((((Below.refl _ _).alloc (Nat.le_refl _) _).trans (hb9.mono (by simp))).mono (by omega))⟩
                      case false =>
                        go_wp2
                        refine wp_region_later (wr.heap.size + 1) (by kernel_rfl) (by kernel_rfl) ?_
                        repeat (first | go_big_quiet_skip | (go_big_quiet_want; go_big_quiet_op; (first | go_big_quiet_on | (apply Exists.intro; refine ⟨fun W => ?_, ?_⟩; (first | (go_at_call 145; exact Calls.later_same (within_c _ _ _ _)) | (go_at_call 137; exact Calls.later_same (isSet_c _ _)) | (go_at_call 293; exact Calls.later_of (by simp) (compareDoors_c _ _ _ _ _ _ _))); go_big_quiet_on))))
                        refine wpQuiet_nil ?_; rintro _ ⟨⟨w9, hb9⟩, rfl⟩; obtain ⟨hc9, hf9, hz9⟩ := bcell3 hb9
                        go_wp2
                        go_roundw
                        case rel => exact ⟨k+1, by omega, by go_num, (hb.trans ((((Below.refl _ _).alloc (Nat.le_refl _) _).trans (hb9.mono (by simp))).mono (by omega))), fun j hj => by
                          rcases Nat.lt_or_ge j k with h | h
                          · exact HK.out j h
                          · obtain rfl : j = k := by omega
                            rw [HG.out]; simp_all⟩
                        case measure => simp [intOf]; omega
          · obtain rfl : k = gs.length := by omega
            go_wp2_with (go_at_call 255; refine (containsFunc_c 294 Try.f294 Try.func294 (by kernel_rfl) (by kernel_rfl) #[] (fun x => !setB x) _ _ _ ps _ rfl (hk.later HB.out) (by omega) (fun j x _ _ w2 _ => isMazeK_c x w2)).mono ?_; rintro e w2 ⟨rfl, hb2⟩)
            go_ret
            exact ⟨ret_bool (keys_last hs1 hs2 h2 H3.out HK.out), below_then HB.out hb2⟩
      · have b3 : ((ps.length : Int) != s) = true := by simpa using h3
        go_enter Try.func223, Try.ntmps223
        go_wp2_with ((go_at_call 145; refine (within_c _ _ _ _).mono ?_; rintro e w1 ⟨rfl, rfl⟩))
        go_ret
        exact ⟨ret_bool (mazeB_no fun h => h3 h.nk).symm, by (repeat (first | exact Below.refl _ _ | apply Below.drew | apply below_drewN | (refine Below.setCell ?_ (by first | omega | (simp; done) | (simp; omega) | (dsimp only; omega)) _) | (refine Below.alloc ?_ (by first | omega | (simp; done) | (simp; omega) | (dsimp only; omega)) _)))⟩
    · have b2 : decide (30 < (gs.length : Int)) = true := by simp; omega
      go_enter Try.func223, Try.ntmps223
      go_wp2_with ((go_at_call 145; refine (within_c _ _ _ _).mono ?_; rintro e w1 ⟨rfl, rfl⟩))
      go_ret
      exact ⟨ret_bool (mazeB_no fun h => h2 h.nd).symm, by (repeat (first | exact Below.refl _ _ | apply Below.drew | apply below_drewN | (refine Below.setCell ?_ (by first | omega | (simp; done) | (simp; omega) | (dsimp only; omega)) _) | (refine Below.alloc ?_ (by first | omega | (simp; done) | (simp; omega) | (dsimp only; omega)) _)))⟩
  · have b1 : inB s 1 12 = false := inB_false.2 h1
    go_enter Try.func223, Try.ntmps223
    go_wp2_with ((go_at_call 145; refine (within_c _ _ _ _).mono ?_; rintro e w1 ⟨rfl, rfl⟩))
    go_ret
    exact ⟨ret_bool (mazeB_no fun h => h1 ⟨h.s1, h.s2⟩).symm, by (repeat (first | exact Below.refl _ _ | apply Below.drew | apply below_drewN | (refine Below.setCell ?_ (by first | omega | (simp; done) | (simp; omega) | (dsimp only; omega)) _) | (refine Below.alloc ?_ (by first | omega | (simp; done) | (simp; omega) | (dsimp only; omega)) _)))⟩
end Go.Proofs.Ytmilpahggceemaa
