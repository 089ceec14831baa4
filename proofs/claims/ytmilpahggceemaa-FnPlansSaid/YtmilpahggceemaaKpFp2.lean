/- Contracts of the validity of works and mazes. Contracts of the validity of works and mazes. Contracts of GateOpen. Gates put to their places; works whose levers are turned. Plain words. A queue of numbers: a slice that is cut at its front and appended to. No program is named here. Nodes of a maze as binary digits: steps, keys, what can be entered next, the largest entry set. No program is named here. -/
import Derived.Test.YtmilpahggceemaaKpFp1
import Derived.Test.YtmilpahggceemaaKpFp0
import Derived.Deep.Upon
import Derived.Deep.RegionLaw
set_option linter.unusedVariables false
set_option linter.unusedSimpArgs false
namespace Go.Proofs.Ytmilpahggceemaa
open Go.RowKit Go.KD
attribute [local go_sem] later_cell later_frozen
set_option maxHeartbeats 8000000 in
theorem l8Works_c (v : Value) (m : Wk) (w : World) (hm : WkAt w v m) : Calls Try.prog 141 #[v] w fun e w' => e = .returned (.bool (worksB m)) ∧ Below w.heap.size w w' := by
  obtain ⟨⟨ad, cd, ak, ck, rfl, hd, hk⟩, nd, nk⟩ := hm
  obtain ⟨s, gs, ps⟩ := m
  dsimp only at *
  by_cases h1 : 1 ≤ s ∧ s ≤ 12
  · have b1 : inB s 1 12 = true := inB_true.2 h1
    obtain ⟨hs1, hs2⟩ := h1
    by_cases h2 : gs.length ≤ 30
    · have b2 : decide (30 < (gs.length : Int)) = false := by simp; omega
      by_cases h3 : (ps.length : Int) = s
      · have b3 : ((ps.length : Int) != s) = false := by simp [h3]
        have H3 := Lib.hid h3; clear h3
        go_enter Try.func141, Try.ntmps141
        go_wp2_with (go_at_call 147; refine (l1In_c _ _ _ _).mono ?_; rintro e w1 ⟨rfl, rfl⟩)
        go_loopw [3] (fun i wr => ∃ k : Nat, k ≤ gs.length ∧ i = .int .i64 k ∧ Below (w.heap.size + 1) (w.alloc (.cells #[.int .i64 s, .slice ad gs.length cd, .slice ak ps.length ck] 36)) wr ∧ Hid (∀ j, j < k → gateB s gs j = true)) (fun i _ => gs.length - (intOf i).toNat)
        case atStart => exact ⟨0, Nat.zero_le _, rfl, Below.refl _ _, fun j hj => by omega⟩
        case round =>
          obtain ⟨k, hkl, rfl, hb, HK⟩ := hrel
          obtain ⟨hc, hf, hz⟩ := bcell3 hb
          simp only [World.size_alloc] at hz
          have hz1 : w.heap.size < wr.heap.size := by omega
          have HB : Hid (Below w.heap.size w wr) := (by (repeat (first | exact Below.refl _ _ | apply Below.drew | apply below_drewN | (refine Below.setCell ?_ (by first | omega | (simp; done) | (simp; omega) | (dsimp only; omega)) _) | (refine Below.alloc ?_ (by first | omega | (simp; done) | (simp; omega) | (dsimp only; omega)) _))) : Below w.heap.size w (w.alloc _)).trans (hb.mono (by omega))
          by_cases hlt : k < gs.length
          · obtain ⟨b, off, x, y, z, u, rfl, HX, hbs, e0, e1, e2, e3⟩ := (hd.later HB.out).at k hlt
            have hz2 : w.heap.size < wr.heap.size + 1 := by omega
            have hbs2 : b < wr.heap.size + 1 := by omega
            have HG := Lib.hid (gateB_eq (size := s) HX.out)
            cases p1 : inB x 0 (s - 1)
            case false =>
              go_wp2
              refine wp_region_later (wr.heap.size + 1) (by kernel_rfl) (by kernel_rfl) ?_
              repeat (first | go_big_quiet_skip | (go_big_quiet_want; go_big_quiet_op; (first | go_big_quiet_on | (apply Exists.intro; refine ⟨fun W => ?_, ?_⟩; (first | (go_at_call 147; exact Calls.later_same (l1In_c _ _ _ _)) | (go_at_call 133; exact Calls.later_same (l2Set_c _ _)) | (go_at_call 266; exact Calls.later_of (by simp) (l8Before_c _ _ _ _ _ _ _ _ _))); go_big_quiet_on))))
              refine wpQuiet_nil ?_; rintro _ ⟨⟨w9, hb9⟩, rfl⟩; obtain ⟨hc9, hf9, hz9⟩ := bcell3 hb9
              go_wp2
              go_ret
              exact ⟨ret_bool (worksB_no fun h => by have := h.gt k hlt; rw [HG.out] at this; simp_all).symm, HB.out.trans ((((Below.refl _ _).alloc (Nat.le_refl _) _).trans (hb9.mono (by simp))).mono (by omega))⟩
            case true =>
              obtain ⟨q0a, q0b⟩ := inB_true.1 p1
              cases p2 : inB y (x + 1) (s - 1)
              case false =>
                go_wp2
                refine wp_region_later (wr.heap.size + 1) (by kernel_rfl) (by kernel_rfl) ?_
                repeat (first | go_big_quiet_skip | (go_big_quiet_want; go_big_quiet_op; (first | go_big_quiet_on | (apply Exists.intro; refine ⟨fun W => ?_, ?_⟩; (first | (go_at_call 147; exact Calls.later_same (l1In_c _ _ _ _)) | (go_at_call 133; exact Calls.later_same (l2Set_c _ _)) | (go_at_call 266; exact Calls.later_of (by simp) (l8Before_c _ _ _ _ _ _ _ _ _))); go_big_quiet_on))))
                refine wpQuiet_nil ?_; rintro _ ⟨⟨w9, hb9⟩, rfl⟩; obtain ⟨hc9, hf9, hz9⟩ := bcell3 hb9
                go_wp2
                go_ret
                exact ⟨ret_bool (worksB_no fun h => by have := h.gt k hlt; rw [HG.out] at this; simp_all).symm, HB.out.trans ((((Below.refl _ _).alloc (Nat.le_refl _) _).trans (hb9.mono (by simp))).mono (by omega))⟩
              case true =>
                obtain ⟨q1a, q1b⟩ := inB_true.1 p2
                cases p3 : setB z
                case false =>
                  go_wp2
                  refine wp_region_later (wr.heap.size + 1) (by kernel_rfl) (by kernel_rfl) ?_
                  repeat (first | go_big_quiet_skip | (go_big_quiet_want; go_big_quiet_op; (first | go_big_quiet_on | (apply Exists.intro; refine ⟨fun W => ?_, ?_⟩; (first | (go_at_call 147; exact Calls.later_same (l1In_c _ _ _ _)) | (go_at_call 133; exact Calls.later_same (l2Set_c _ _)) | (go_at_call 266; exact Calls.later_of (by simp) (l8Before_c _ _ _ _ _ _ _ _ _))); go_big_quiet_on))))
                  refine wpQuiet_nil ?_; rintro _ ⟨⟨w9, hb9⟩, rfl⟩; obtain ⟨hc9, hf9, hz9⟩ := bcell3 hb9
                  go_wp2
                  go_ret
                  exact ⟨ret_bool (worksB_no fun h => by have := h.gt k hlt; rw [HG.out] at this; simp_all).symm, HB.out.trans ((((Below.refl _ _).alloc (Nat.le_refl _) _).trans (hb9.mono (by simp))).mono (by omega))⟩
                case true =>
                  cases p4 : inB u 0 1
                  case false =>
                    go_wp2
                    refine wp_region_later (wr.heap.size + 1) (by kernel_rfl) (by kernel_rfl) ?_
                    repeat (first | go_big_quiet_skip | (go_big_quiet_want; go_big_quiet_op; (first | go_big_quiet_on | (apply Exists.intro; refine ⟨fun W => ?_, ?_⟩; (first | (go_at_call 147; exact Calls.later_same (l1In_c _ _ _ _)) | (go_at_call 133; exact Calls.later_same (l2Set_c _ _)) | (go_at_call 266; exact Calls.later_of (by simp) (l8Before_c _ _ _ _ _ _ _ _ _))); go_big_quiet_on))))
                    refine wpQuiet_nil ?_; rintro _ ⟨⟨w9, hb9⟩, rfl⟩; obtain ⟨hc9, hf9, hz9⟩ := bcell3 hb9
                    go_wp2
                    go_ret
                    exact ⟨ret_bool (worksB_no fun h => by have := h.gt k hlt; rw [HG.out] at this; simp_all).symm, HB.out.trans ((((Below.refl _ _).alloc (Nat.le_refl _) _).trans (hb9.mono (by simp))).mono (by omega))⟩
                  case true =>
                    rcases Nat.eq_zero_or_pos k with hk0 | hk0
                    · have hki : decide (0 < k) = false := by simp; omega
                      have hki2 : decide ((0 : Int) < (k : Int)) = false := by simp; omega
                      have HK0 := Lib.hid hk0; clear hk0
                      go_wp2
                      refine wp_region_later (wr.heap.size + 1) (by kernel_rfl) (by kernel_rfl) ?_
                      repeat (first | go_big_quiet_skip | (go_big_quiet_want; go_big_quiet_op; (first | go_big_quiet_on | (apply Exists.intro; refine ⟨fun W => ?_, ?_⟩; (first | (go_at_call 147; exact Calls.later_same (l1In_c _ _ _ _)) | (go_at_call 133; exact Calls.later_same (l2Set_c _ _)) | (go_at_call 266; exact Calls.later_of (by simp) (l8Before_c _ _ _ _ _ _ _ _ _))); go_big_quiet_on))))
                      refine wpQuiet_nil ?_; rintro _ ⟨⟨w9, hb9⟩, rfl⟩; obtain ⟨hc9, hf9, hz9⟩ := bcell3 hb9
                      go_wp2
                      go_roundw
                      case rel => exact ⟨k+1, by omega, by go_num, (hb.trans ((((Below.refl _ _).alloc (Nat.le_refl _) _).trans (hb9.mono (by simp))).mono (by omega))), fun j hj => by
                        rcases Nat.lt_or_ge j k with h | h
                        · exact HK.out j h
                        · obtain rfl : j = k := by omega
                          rw [HG.out]; have := HK0.out; simp_all⟩
                      case measure => simp [intOf]; omega
                    · obtain ⟨b2, off2, x', y', z', u', hb2, HY, _, f0, f1, f2, f3⟩ := (hd.later HB.out).at (k - 1) (by omega)
                      obtain ⟨rfl, rfl⟩ : b = b2 ∧ off = off2 := by simpa using hb2
                      clear hb2
                      have hki : (0 : Int) < (k : Int) := by omega
                      have HG2 := Lib.hid (HG.out.trans (by rw [HY.out]))
                      clear HG; have HG := HG2; clear HG2
                      cases p9 : lt4 (x', y', z', u') (x, y, z, u)
                      case false =>
                        go_wp2
                        refine wp_region_later (wr.heap.size + 1) (by kernel_rfl) (by kernel_rfl) ?_
                        repeat (first | go_big_quiet_skip | (go_big_quiet_want; go_big_quiet_op; (first | go_big_quiet_on | (apply Exists.intro; refine ⟨fun W => ?_, ?_⟩; (first | (go_at_call 147; exact Calls.later_same (l1In_c _ _ _ _)) | (go_at_call 133; exact Calls.later_same (l2Set_c _ _)) | (go_at_call 266; exact Calls.later_of (by simp) (l8Before_c _ _ _ _ _ _ _ _ _))); go_big_quiet_on))))
                        refine wpQuiet_nil ?_; rintro _ ⟨⟨w9, hb9⟩, rfl⟩; obtain ⟨hc9, hf9, hz9⟩ := bcell3 hb9
                        go_wp2
                        go_ret
                        exact ⟨ret_bool (worksB_no fun h => by have := h.gt k hlt; rw [HG.out] at this; simp_all).symm, HB.out.trans ((((Below.refl _ _).alloc (Nat.le_refl _) _).trans (hb9.mono (by simp))).mono (by omega))⟩
                      case true =>
                        go_wp2
                        refine wp_region_later (wr.heap.size + 1) (by kernel_rfl) (by kernel_rfl) ?_
                        repeat (first | go_big_quiet_skip | (go_big_quiet_want; go_big_quiet_op; (first | go_big_quiet_on | (apply Exists.intro; refine ⟨fun W => ?_, ?_⟩; (first | (go_at_call 147; exact Calls.later_same (l1In_c _ _ _ _)) | (go_at_call 133; exact Calls.later_same (l2Set_c _ _)) | (go_at_call 266; exact Calls.later_of (by simp) (l8Before_c _ _ _ _ _ _ _ _ _))); go_big_quiet_on))))
                        refine wpQuiet_nil ?_; rintro _ ⟨⟨w9, hb9⟩, rfl⟩; obtain ⟨hc9, hf9, hz9⟩ := bcell3 hb9
                        go_wp2
                        go_roundw
                        case rel => exact ⟨k+1, by omega, by go_num, (hb.trans ((((Below.refl _ _).alloc (Nat.le_refl _) _).trans (hb9.mono (by simp))).mono (by omega))), fun j hj => by
                          rcases Nat.lt_or_ge j k with h | h
                          · exact HK.out j h
                          · obtain rfl : j = k := by omega
                            rw [HG.out]; simp_all⟩
                        case measure => simp [intOf]; omega
          · obtain rfl : k = gs.length := by omega
            go_wp2
            obtain ⟨wo, hwo⟩ : ∃ wo : World, wo = wr := ⟨_, rfl⟩
            have HWO := Lib.hid hwo; clear hwo
            go_loop [5] (fun i => ∃ j : Nat, j ≤ ps.length ∧ i = .int .i64 j ∧ Hid (∀ t, t < j → setB ps[t]! = true)) (fun i => ps.length - (intOf i).toNat)
            case atStart => exact ⟨0, Nat.zero_le _, rfl, fun j hj => by omega⟩
            case round =>
              obtain ⟨j, hj, rfl, HJ⟩ := hrel
              by_cases hlt2 : j < ps.length
              · have hji : (j : Int) < s := by have := H3.out; omega
                obtain ⟨b, off, x, rfl, HX, hbs, e0⟩ := (hk.later HB.out).at j hlt2
                cases p1 : setB x
                · go_wp2_with (go_at_call 133; refine (l2Set_c _ _).mono ?_; rintro e w1 ⟨rfl, rfl⟩)
                  go_ret
                  exact ⟨ret_bool (worksB_no fun h => by have := h.pl j hlt2; rw [HX.out] at this; simp_all).symm, HB.out⟩
                · go_wp2_with (go_at_call 133; refine (l2Set_c _ _).mono ?_; rintro e w1 ⟨rfl, rfl⟩)
                  go_round
                  case rel => exact ⟨j+1, by omega, by go_num, fun t ht => by
                    rcases Nat.lt_or_ge t j with h | h
                    · exact HJ.out t h
                    · obtain rfl : t = j := by omega
                      rw [HX.out]; exact p1⟩
                  case measure => simp [intOf]; omega
              · have hji : ¬ (j : Int) < s := by have := H3.out; omega
                go_wp2
                go_ret
                exact ⟨ret_bool (worksB_true.2 ⟨hs1, hs2, h2, H3.out, HK.out, fun t ht => HJ.out t (by have : t < ps.length := ht; omega)⟩).symm, HB.out⟩
      · have b3 : ((ps.length : Int) != s) = true := by simpa using h3
        go_enter Try.func141, Try.ntmps141
        go_wp2_with ((go_at_call 147; refine (l1In_c _ _ _ _).mono ?_; rintro e w1 ⟨rfl, rfl⟩))
        go_ret
        exact ⟨ret_bool (worksB_no fun h => h3 h.np).symm, by (repeat (first | exact Below.refl _ _ | apply Below.drew | apply below_drewN | (refine Below.setCell ?_ (by first | omega | (simp; done) | (simp; omega) | (dsimp only; omega)) _) | (refine Below.alloc ?_ (by first | omega | (simp; done) | (simp; omega) | (dsimp only; omega)) _)))⟩
    · have b2 : decide (30 < (gs.length : Int)) = true := by simp; omega
      go_enter Try.func141, Try.ntmps141
      go_wp2_with ((go_at_call 147; refine (l1In_c _ _ _ _).mono ?_; rintro e w1 ⟨rfl, rfl⟩))
      go_ret
      exact ⟨ret_bool (worksB_no fun h => h2 h.ng).symm, by (repeat (first | exact Below.refl _ _ | apply Below.drew | apply below_drewN | (refine Below.setCell ?_ (by first | omega | (simp; done) | (simp; omega) | (dsimp only; omega)) _) | (refine Below.alloc ?_ (by first | omega | (simp; done) | (simp; omega) | (dsimp only; omega)) _)))⟩
  · have b1 : inB s 1 12 = false := inB_false.2 h1
    go_enter Try.func141, Try.ntmps141
    go_wp2_with ((go_at_call 147; refine (l1In_c _ _ _ _).mono ?_; rintro e w1 ⟨rfl, rfl⟩))
    go_ret
    exact ⟨ret_bool (worksB_no fun h => h1 ⟨h.s1, h.s2⟩).symm, by (repeat (first | exact Below.refl _ _ | apply Below.drew | apply below_drewN | (refine Below.setCell ?_ (by first | omega | (simp; done) | (simp; omega) | (dsimp only; omega)) _) | (refine Below.alloc ?_ (by first | omega | (simp; done) | (simp; omega) | (dsimp only; omega)) _)))⟩
end Go.Proofs.Ytmilpahggceemaa

namespace Go.Proofs.Ytmilpahggceemaa
open Go.RowKit Go.KD
attribute [local go_sem] later_cell later_frozen
theorem areSetsK_c (x : Int) (w : World) : Calls Try.prog 256 #[.int .i64 x] w fun e w' => e = .returned (.bool (!setB x)) ∧ Below w.heap.size w w' := by
  go_enter Try.func256, Try.ntmps256
  go_wp2_with (go_at_call 137; refine (isSet_c _ _).mono ?_; rintro e w1 ⟨rfl, rfl⟩)
  go_ret
  exact ⟨ret_bool rfl, Below.refl _ _⟩
theorem areSets_c (a : Option Addr) (cap n : Nat) (l : List Int) (w : World) (hn : n = l.length) (hA : IC w a l) (hl : n ≤ 1048576) : Calls Try.prog 129 #[.slice a n cap] w fun e w' => e = .returned (.bool (!anyP (fun x => !setB x) l)) ∧ Below w.heap.size w w' := by
  have HN := Lib.hid hn; clear hn
  go_enter Try.func129, Try.ntmps129
  go_wp2_with (go_at_call 255; refine (containsFunc_c 256 Try.f256 Try.func256 (by kernel_rfl) (by kernel_rfl) #[] (fun x => !setB x) _ _ _ l _ HN.out hA hl (fun j x _ _ w2 _ => areSetsK_c x w2)).mono ?_; rintro e w1 ⟨rfl, hb1⟩)
  go_ret
  exact ⟨ret_bool rfl, hb1⟩
set_option maxHeartbeats 8000000 in
theorem isWorks_c (v : Value) (m : Wk) (w : World) (hm : WkAt w v m) : Calls Try.prog 52 #[v] w fun e w' => e = .returned (.bool (worksB m)) ∧ Below w.heap.size w w' := by
  obtain ⟨⟨ad, cd, ak, ck, rfl, hd, hk⟩, nd, nk⟩ := hm
  obtain ⟨s, gs, ps⟩ := m
  dsimp only at *
  by_cases h1 : 1 ≤ s ∧ s ≤ 12
  · have b1 : inB s 1 12 = true := inB_true.2 h1
    obtain ⟨hs1, hs2⟩ := h1
    by_cases h2 : gs.length ≤ 30
    · have b2 : decide (30 < (gs.length : Int)) = false := by simp; omega
      by_cases h3 : (ps.length : Int) = s
      · have b3 : ((ps.length : Int) != s) = false := by simp [h3]
        have H3 := Lib.hid h3; clear h3
        cases b4 : anyP (fun x => !setB x) ps
        case true =>
          go_enter Try.func52, Try.ntmps52
          go_wp2_with (first | (go_at_call 145; refine (within_c _ _ _ _).mono ?_; rintro e w1 ⟨rfl, rfl⟩) | (go_at_call 129; refine (areSets_c _ _ _ ps _ rfl (hk.later (by (repeat (first | exact Below.refl _ _ | apply Below.drew | apply below_drewN | (refine Below.setCell ?_ (by first | omega | (simp; done) | (simp; omega) | (dsimp only; omega)) _) | (refine Below.alloc ?_ (by first | omega | (simp; done) | (simp; omega) | (dsimp only; omega)) _))))) (by omega)).mono ?_; rintro e w1 ⟨rfl, hb1⟩; obtain ⟨hc1, hf1, hz1⟩ := bcell3 hb1))
          go_ret
          exact ⟨ret_bool (worksB_no fun h => by have := h.pl; simp only [anyP, List.any_eq_true] at b4; obtain ⟨x, hx, hs⟩ := b4; obtain ⟨j, hj, rfl⟩ := List.mem_iff_getElem.1 hx; have := this j hj; rw [getElem!_pos ps j hj] at this; simp_all).symm, below_then (by (repeat (first | exact Below.refl _ _ | apply Below.drew | apply below_drewN | (refine Below.setCell ?_ (by first | omega | (simp; done) | (simp; omega) | (dsimp only; omega)) _) | (refine Below.alloc ?_ (by first | omega | (simp; done) | (simp; omega) | (dsimp only; omega)) _)))) hb1⟩
        go_enter Try.func52, Try.ntmps52
        go_wp2_with (first | (go_at_call 145; refine (within_c _ _ _ _).mono ?_; rintro e w1 ⟨rfl, rfl⟩) | (go_at_call 129; refine (areSets_c _ _ _ ps _ rfl (hk.later (by (repeat (first | exact Below.refl _ _ | apply Below.drew | apply below_drewN | (refine Below.setCell ?_ (by first | omega | (simp; done) | (simp; omega) | (dsimp only; omega)) _) | (refine Below.alloc ?_ (by first | omega | (simp; done) | (simp; omega) | (dsimp only; omega)) _))))) (by omega)).mono ?_; rintro e w1 ⟨rfl, hb1⟩; obtain ⟨hc1, hf1, hz1⟩ := bcell3 hb1))
        have HW : Hid (Below (w.heap.size + 1) (w.alloc (.cells #[.int .i64 s, .slice ad gs.length cd, .slice ak ps.length ck] 36)) w1) := (hb1.mono (by simp) : _)
        go_loopw [3, 32] (fun _ i wr => ∃ k : Nat, k ≤ gs.length ∧ i = .int .i64 k ∧ Below (w.heap.size + 1) (w.alloc (.cells #[.int .i64 s, .slice ad gs.length cd, .slice ak ps.length ck] 36)) wr ∧ Hid (∀ j, j < k → gateB s gs j = true)) (fun _ i _ => gs.length - (intOf i).toNat)
        case atStart => exact ⟨0, Nat.zero_le _, rfl, HW.out, fun j hj => by omega⟩
        case round =>
          obtain ⟨k, hkl, rfl, hb, HK⟩ := hrel
          obtain ⟨hc, hf, hz⟩ := bcell3 hb
          simp only [World.size_alloc] at hz
          have hz1 : w.heap.size < wr.heap.size := by omega
          have HB : Hid (Below w.heap.size w wr) := (by (repeat (first | exact Below.refl _ _ | apply Below.drew | apply below_drewN | (refine Below.setCell ?_ (by first | omega | (simp; done) | (simp; omega) | (dsimp only; omega)) _) | (refine Below.alloc ?_ (by first | omega | (simp; done) | (simp; omega) | (dsimp only; omega)) _))) : Below w.heap.size w (w.alloc _)).trans (hb.mono (by omega))
          by_cases hlt : k < gs.length
          · obtain ⟨b, off, x, y, z, u, rfl, HX, hbs, e0, e1, e2, e3⟩ := (hd.later HB.out).at k hlt
            have hz2 : w.heap.size < wr.heap.size + 1 := by omega
            have hbs2 : b < wr.heap.size + 1 := by omega
            have HG := Lib.hid (gateB_impl (size := s) HX.out)
            cases p1 : inB y 1 (s - 1)
            case false =>
              go_wp2
              refine wp_region_later (wr.heap.size + 1) (by kernel_rfl) (by kernel_rfl) ?_
              repeat (first | go_big_quiet_skip | (go_big_quiet_want; go_big_quiet_op; (first | go_big_quiet_on | (apply Exists.intro; refine ⟨fun W => ?_, ?_⟩; (first | (go_at_call 145; exact Calls.later_same (within_c _ _ _ _)) | (go_at_call 137; exact Calls.later_same (isSet_c _ _)) | (go_at_call 153; exact Calls.later_of (by simp) (compareGates_c _ _ _ _ _ _ _ _ _))); go_big_quiet_on))))
              refine wpQuiet_nil ?_; rintro _ ⟨⟨w9, hb9⟩, rfl⟩; obtain ⟨hc9, hf9, hz9⟩ := bcell3 hb9
              go_wp2
              go_ret
              exact ⟨ret_bool (worksB_no fun h => by have := h.gt k hlt; rw [HG.out] at this; simp_all).symm, HB.out.trans ((((Below.refl _ _).alloc (Nat.le_refl _) _).trans (hb9.mono (by simp))).mono (by omega))⟩
            case true =>
              obtain ⟨q0a, q0b⟩ := inB_true.1 p1
              cases p2 : inB x 0 (y - 1)
              case false =>
                go_wp2
                refine wp_region_later (wr.heap.size + 1) (by kernel_rfl) (by kernel_rfl) ?_
                repeat (first | go_big_quiet_skip | (go_big_quiet_want; go_big_quiet_op; (first | go_big_quiet_on | (apply Exists.intro; refine ⟨fun W => ?_, ?_⟩; (first | (go_at_call 145; exact Calls.later_same (within_c _ _ _ _)) | (go_at_call 137; exact Calls.later_same (isSet_c _ _)) | (go_at_call 153; exact Calls.later_of (by simp) (compareGates_c _ _ _ _ _ _ _ _ _))); go_big_quiet_on))))
                refine wpQuiet_nil ?_; rintro _ ⟨⟨w9, hb9⟩, rfl⟩; obtain ⟨hc9, hf9, hz9⟩ := bcell3 hb9
                go_wp2
                go_ret
                exact ⟨ret_bool (worksB_no fun h => by have := h.gt k hlt; rw [HG.out] at this; simp_all).symm, HB.out.trans ((((Below.refl _ _).alloc (Nat.le_refl _) _).trans (hb9.mono (by simp))).mono (by omega))⟩
              case true =>
                obtain ⟨q1a, q1b⟩ := inB_true.1 p2
                cases p3 : setB z
                case false =>
                  go_wp2
                  refine wp_region_later (wr.heap.size + 1) (by kernel_rfl) (by kernel_rfl) ?_
                  repeat (first | go_big_quiet_skip | (go_big_quiet_want; go_big_quiet_op; (first | go_big_quiet_on | (apply Exists.intro; refine ⟨fun W => ?_, ?_⟩; (first | (go_at_call 145; exact Calls.later_same (within_c _ _ _ _)) | (go_at_call 137; exact Calls.later_same (isSet_c _ _)) | (go_at_call 153; exact Calls.later_of (by simp) (compareGates_c _ _ _ _ _ _ _ _ _))); go_big_quiet_on))))
                  refine wpQuiet_nil ?_; rintro _ ⟨⟨w9, hb9⟩, rfl⟩; obtain ⟨hc9, hf9, hz9⟩ := bcell3 hb9
                  go_wp2
                  go_ret
                  exact ⟨ret_bool (worksB_no fun h => by have := h.gt k hlt; rw [HG.out] at this; simp_all).symm, HB.out.trans ((((Below.refl _ _).alloc (Nat.le_refl _) _).trans (hb9.mono (by simp))).mono (by omega))⟩
                case true =>
                  cases p4 : inB u 0 1
                  case false =>
                    go_wp2
                    refine wp_region_later (wr.heap.size + 1) (by kernel_rfl) (by kernel_rfl) ?_
                    repeat (first | go_big_quiet_skip | (go_big_quiet_want; go_big_quiet_op; (first | go_big_quiet_on | (apply Exists.intro; refine ⟨fun W => ?_, ?_⟩; (first | (go_at_call 145; exact Calls.later_same (within_c _ _ _ _)) | (go_at_call 137; exact Calls.later_same (isSet_c _ _)) | (go_at_call 153; exact Calls.later_of (by simp) (compareGates_c _ _ _ _ _ _ _ _ _))); go_big_quiet_on))))
                    refine wpQuiet_nil ?_; rintro _ ⟨⟨w9, hb9⟩, rfl⟩; obtain ⟨hc9, hf9, hz9⟩ := bcell3 hb9
                    go_wp2
                    go_ret
                    exact ⟨ret_bool (worksB_no fun h => by have := h.gt k hlt; rw [HG.out] at this; simp_all).symm, HB.out.trans ((((Below.refl _ _).alloc (Nat.le_refl _) _).trans (hb9.mono (by simp))).mono (by omega))⟩
                  case true =>
                    rcases Nat.eq_zero_or_pos k with hk0 | hk0
                    · have hki : decide (0 < k) = false := by simp; omega
                      have hki2 : decide ((0 : Int) < (k : Int)) = false := by simp; omega
                      have HK0 := Lib.hid hk0; clear hk0
                      go_wp2
                      refine wp_region_later (wr.heap.size + 1) (by kernel_rfl) (by kernel_rfl) ?_
                      repeat (first | go_big_quiet_skip | (go_big_quiet_want; go_big_quiet_op; (first | go_big_quiet_on | (apply Exists.intro; refine ⟨fun W => ?_, ?_⟩; (first | (go_at_call 145; exact Calls.later_same (within_c _ _ _ _)) | (go_at_call 137; exact Calls.later_same (isSet_c _ _)) | (go_at_call 153; exact Calls.later_of (by simp) (compareGates_c _ _ _ _ _ _ _ _ _))); go_big_quiet_on))))
                      refine wpQuiet_nil ?_; rintro _ ⟨⟨w9, hb9⟩, rfl⟩; obtain ⟨hc9, hf9, hz9⟩ := bcell3 hb9
                      go_wp2
                      go_roundw
                      case rel => exact ⟨k+1, by omega, by go_num, (hb.trans ((((Below.refl _ _).alloc (Nat.le_refl _) _).trans (hb9.mono (by simp))).mono (by omega))), fun j hj => by
                        rcases Nat.lt_or_ge j k with h | h
                        · exact HK.out j h
                        · obtain rfl : j = k := by omega
                          rw [HG.out]; have := HK0.out; simp_all⟩
                      case measure => simp [intOf]; omega
                    · obtain ⟨b2, off2, x', y', z', u', hb2, HY, _, f0, f1, f2, f3⟩ := (hd.later HB.out).at (k - 1) (by omega)
                      obtain ⟨rfl, rfl⟩ : b = b2 ∧ off = off2 := by simpa using hb2
                      clear hb2
                      have hki : (0 : Int) < (k : Int) := by omega
                      have HG2 := Lib.hid (HG.out.trans (by rw [HY.out]))
                      clear HG; have HG := HG2; clear HG2
                      cases p9 : decide (0 ≤ cmp4 (x', y', z', u') (x, y, z, u))
                      case true =>
                        go_wp2
                        refine wp_region_later (wr.heap.size + 1) (by kernel_rfl) (by kernel_rfl) ?_
                        repeat (first | go_big_quiet_skip | (go_big_quiet_want; go_big_quiet_op; (first | go_big_quiet_on | (apply Exists.intro; refine ⟨fun W => ?_, ?_⟩; (first | (go_at_call 145; exact Calls.later_same (within_c _ _ _ _)) | (go_at_call 137; exact Calls.later_same (isSet_c _ _)) | (go_at_call 153; exact Calls.later_of (by simp) (compareGates_c _ _ _ _ _ _ _ _ _))); go_big_quiet_on))))
                        refine wpQuiet_nil ?_; rintro _ ⟨⟨w9, hb9⟩, rfl⟩; obtain ⟨hc9, hf9, hz9⟩ := bcell3 hb9
                        go_wp2
                        go_ret
                        exact ⟨ret_bool (worksB_no fun h => by have := h.gt k hlt; rw [HG.out] at this; simp_all).symm, HB.out.trans ((((Below.refl _ _).alloc (Nat.le_refl _) _).trans (hb9.mono (by simp))).mono (by omega))⟩
                      case false =>
                        go_wp2
                        refine wp_region_later (wr.heap.size + 1) (by kernel_rfl) (by kernel_rfl) ?_
                        repeat (first | go_big_quiet_skip | (go_big_quiet_want; go_big_quiet_op; (first | go_big_quiet_on | (apply Exists.intro; refine ⟨fun W => ?_, ?_⟩; (first | (go_at_call 145; exact Calls.later_same (within_c _ _ _ _)) | (go_at_call 137; exact Calls.later_same (isSet_c _ _)) | (go_at_call 153; exact Calls.later_of (by simp) (compareGates_c _ _ _ _ _ _ _ _ _))); go_big_quiet_on))))
                        refine wpQuiet_nil ?_; rintro _ ⟨⟨w9, hb9⟩, rfl⟩; obtain ⟨hc9, hf9, hz9⟩ := bcell3 hb9
                        go_wp2
                        go_roundw
                        case rel => exact ⟨k+1, by omega, by go_num, (hb.trans ((((Below.refl _ _).alloc (Nat.le_refl _) _).trans (hb9.mono (by simp))).mono (by omega))), fun j hj => by
                          rcases Nat.lt_or_ge j k with h | h
                          · exact HK.out j h
                          · obtain rfl : j = k := by omega
                            rw [HG.out]; simp_all⟩
                        case measure => simp [intOf]; omega
          · obtain rfl : k = gs.length := by omega
            go_wp2
            go_ret
            exact ⟨ret_bool (worksB_true.2 ⟨hs1, hs2, h2, H3.out, HK.out, fun t ht => by simp only [anyP, List.any_eq_false] at b4; have := b4 ps[t] (List.getElem_mem ht); rw [getElem!_pos ps t ht]; simpa using this⟩).symm, HB.out⟩
      · have b3 : ((ps.length : Int) != s) = true := by simpa using h3
        go_enter Try.func52, Try.ntmps52
        go_wp2_with ((go_at_call 145; refine (within_c _ _ _ _).mono ?_; rintro e w1 ⟨rfl, rfl⟩))
        go_ret
        exact ⟨ret_bool (worksB_no fun h => h3 h.np).symm, by (repeat (first | exact Below.refl _ _ | apply Below.drew | apply below_drewN | (refine Below.setCell ?_ (by first | omega | (simp; done) | (simp; omega) | (dsimp only; omega)) _) | (refine Below.alloc ?_ (by first | omega | (simp; done) | (simp; omega) | (dsimp only; omega)) _)))⟩
    · have b2 : decide (30 < (gs.length : Int)) = true := by simp; omega
      go_enter Try.func52, Try.ntmps52
      go_wp2_with ((go_at_call 145; refine (within_c _ _ _ _).mono ?_; rintro e w1 ⟨rfl, rfl⟩))
      go_ret
      exact ⟨ret_bool (worksB_no fun h => h2 h.ng).symm, by (repeat (first | exact Below.refl _ _ | apply Below.drew | apply below_drewN | (refine Below.setCell ?_ (by first | omega | (simp; done) | (simp; omega) | (dsimp only; omega)) _) | (refine Below.alloc ?_ (by first | omega | (simp; done) | (simp; omega) | (dsimp only; omega)) _)))⟩
  · have b1 : inB s 1 12 = false := inB_false.2 h1
    go_enter Try.func52, Try.ntmps52
    go_wp2_with ((go_at_call 145; refine (within_c _ _ _ _).mono ?_; rintro e w1 ⟨rfl, rfl⟩))
    go_ret
    exact ⟨ret_bool (worksB_no fun h => h1 ⟨h.s1, h.s2⟩).symm, by (repeat (first | exact Below.refl _ _ | apply Below.drew | apply below_drewN | (refine Below.setCell ?_ (by first | omega | (simp; done) | (simp; omega) | (dsimp only; omega)) _) | (refine Below.alloc ?_ (by first | omega | (simp; done) | (simp; omega) | (dsimp only; omega)) _)))⟩
end Go.Proofs.Ytmilpahggceemaa

namespace Go.KD
/-- Is a gate open? -/
def openB (g : D4) (l : Int) : Bool := decide (popc (g.2.2.1.toNat &&& l.toNat) % 2 = g.2.2.2)
noncomputable def pGateOpen (m : Wk) (k l : Int) : Bool × Bool :=
  if worksB m && inB k 0 (m.gates.length - 1) && setB l then (openB m.gates[k.toNat]! l, true) else (false, false)
theorem gate_facts {m : Wk} (h : WkOk m) {k : Nat} (hk : k < m.gates.length) {x y z u : Int} (hg : m.gates[k]! = (x, y, z, u)) : 0 ≤ x ∧ x < y ∧ y < m.size ∧ 0 ≤ z ∧ z < 64 ∧ 0 ≤ u ∧ u ≤ 1 := by
  have := h.gt k hk
  rw [gateB_eq hg] at this
  simp only [Bool.and_eq_true, inB_true, setB_true] at this
  omega
end Go.KD
namespace Go.Proofs.Ytmilpahggceemaa
open Go.RowKit Go.KD
attribute [local go_sem] later_cell later_frozen
theorem ret_tup {a b : Array Value} (h : a = b) : Ending.returned (.tuple a) = .returned (.tuple b) := by rw [h]
theorem and_lt64 {a : Nat} (b : Nat) (h : a < 64) : a &&& b < 64 := Nat.lt_of_le_of_lt Nat.and_le_left h
set_option maxHeartbeats 1000000 in
theorem l8Open_c (x y u : Int) (z l : Nat) (hz : z < 64) (hl : l < 64) (w : World) : Calls Try.prog 148 #[.agg #[.int .i64 x, .int .i64 y, .int .i64 z, .int .i64 u], .int .i64 l] w fun e w' =>
    e = .returned (.bool (openB (x, y, z, u) l)) ∧ Below w.heap.size w w' := by
  have hp : 0 ≤ popc (z &&& l) % 2 := by unfold popc; omega
  have HA : Hid (bits .and .i64 (z : Int) (l : Int) = ((z &&& l : Nat) : Int)) := i64_and z l (by omega) (by omega)
  go_enter Try.func148, Try.ntmps148
  go_wp2
  refine wp_region_later (w.heap.size + 1) (by kernel_rfl) (by kernel_rfl) ?_
  repeat (first | go_big_quiet_skip | (go_big_quiet_want; go_big_quiet_op; (first | go_big_quiet_on | (apply Exists.intro; refine ⟨fun W => ?_, ?_⟩; (first | (go_at_call 156; exact Calls.later_same (l8Odd_c z l (z &&& l) (and_lt64 l hz) HA.out _))); go_big_quiet_on))))
  refine wpQuiet_nil ?_; rintro _ ⟨⟨w9, hb9⟩, rfl⟩; obtain ⟨hc9, hf9, hz9⟩ := bcell3 hb9
  go_wp2
  go_ret
  exact ⟨ret_bool (by rw [Bool.eq_iff_iff]; simp [openB]), ((Below.refl _ _).alloc (Nat.le_refl _) _).trans (hb9.mono (by omega))⟩
set_option maxHeartbeats 1000000 in
theorem isOpen_c (v : Value) (m : Wk) (w : World) (hm : WkAt w v m) (ok : WkOk m) (k l : Nat) (hk : k < m.gates.length) (hl : l < 64) (g : D4) (hg : Hid (m.gates[k]! = g)) : Calls Try.prog 146 #[v, .int .i64 k, .int .i64 l] w fun e w' =>
    e = .returned (.bool (openB g l)) ∧ Below w.heap.size w w' := by
  obtain ⟨⟨ad, cd, ak, ck, rfl, hd, hk'⟩, nd, nk⟩ := hm
  have hng := ok.ng
  obtain ⟨s, gs, ps⟩ := m
  dsimp only at *
  obtain ⟨b, off, x, y, z, u, rfl, HX, hbs, e0, e1, e2, e3⟩ := hd.at k hk
  obtain rfl : g = (x, y, z, u) := hg.out.symm.trans HX.out
  obtain ⟨f1, f2, f3, f4, f5, f6, f7⟩ := gate_facts ok hk HX.out
  obtain ⟨zn, rfl⟩ := Int.eq_ofNat_of_zero_le f4
  have hp : 0 ≤ popc (zn &&& l) % 2 := by unfold popc; omega
  have hzn : zn < 64 := by omega
  have ea : bits .and .i64 (zn : Int) (l : Int) = ((zn &&& l : Nat) : Int) := i64_and zn l (by omega) (by omega)
  have HR : Hid (openB (x, y, (zn : Int), u) l = decide (popc (zn &&& l) % 2 = u)) := by show _ = _; simp [openB]
  have hbs1 : b < w.heap.size + 1 := by omega
  obtain ⟨y0, hy0⟩ : ∃ y0, y0 = zn &&& l := ⟨_, rfl⟩
  rw [← hy0] at ea
  have HY := Lib.hid hy0; clear hy0
  have hy64 : y0 < 64 := by have := and_lt64 l hzn; have := HY.out; omega
  go_enter Try.func146, Try.ntmps146
  go_wp2
  refine wp_region_later (w.heap.size + 1) (by kernel_rfl) (by kernel_rfl) ?_
  repeat (first | go_big_quiet_skip | (go_big_quiet_want; go_big_quiet_op; (first | go_big_quiet_on | (apply Exists.intro; refine ⟨fun W => ?_, ?_⟩; (first | (go_at_call 151; exact Calls.later_same (odd_c y0 hy64 _))); go_big_quiet_on))))
  refine wpQuiet_nil ?_; rintro _ ⟨⟨w9, hb9⟩, rfl⟩; obtain ⟨hc9, hf9, hz9⟩ := bcell3 hb9
  go_wp2
  go_ret
  exact ⟨ret_bool (by rw [HR.out, ← HY.out]; first | rfl | (rw [Bool.eq_iff_iff]; simp)), ((Below.refl _ _).alloc (Nat.le_refl _) _).trans (hb9.mono (by omega))⟩
set_option maxHeartbeats 2000000 in
theorem specGateOpen_c (v : Value) (m : Wk) (k l : Int) (w : World) (hm : WkAt w v m) (wk : wfI k) (wl : wfI l) : Calls Try.prog 30 #[v, .int .i64 k, .int .i64 l] w fun e w' =>
    e = .returned (.tuple #[.bool (pGateOpen m k l).1, .bool (pGateOpen m k l).2]) ∧ Below w.heap.size w w' := by
  have hM := hm
  obtain ⟨⟨ad, cd, ak, ck, rfl, hd, hk'⟩, nd, nk⟩ := hM
  obtain ⟨s, gs, ps⟩ := m
  dsimp only at *
  cases b1 : worksB ⟨s, gs, ps⟩
  · have HP : Hid (#[Value.bool false, Value.bool false] = #[.bool (pGateOpen ⟨s, gs, ps⟩ k l).1, .bool (pGateOpen ⟨s, gs, ps⟩ k l).2]) := by show _ = _; simp [pGateOpen, b1]
    go_enter Try.func30, Try.ntmps30
    go_wp2_with (first | (go_at_call 141; refine (l8Works_c _ ⟨s, gs, ps⟩ _ (hm.later (by (repeat (first | exact Below.refl _ _ | apply Below.drew | apply below_drewN | (refine Below.setCell ?_ (by first | omega | (simp; done) | (simp; omega) | (dsimp only; omega)) _) | (refine Below.alloc ?_ (by first | omega | (simp; done) | (simp; omega) | (dsimp only; omega)) _)))))).mono ?_; rintro e w1 ⟨rfl, hb1⟩; obtain ⟨hc1, hf1, hz1⟩ := bcell3 hb1; have HB1 : Hid (Below w.heap.size w w1) := below_then (by (repeat (first | exact Below.refl _ _ | apply Below.drew | apply below_drewN | (refine Below.setCell ?_ (by first | omega | (simp; done) | (simp; omega) | (dsimp only; omega)) _) | (refine Below.alloc ?_ (by first | omega | (simp; done) | (simp; omega) | (dsimp only; omega)) _)))) hb1) | (go_at_call 147; refine (l1In_c _ _ _ _).mono ?_; rintro e w2 ⟨rfl, rfl⟩) | (go_at_call 133; refine (l2Set_c _ _).mono ?_; rintro e w3 ⟨rfl, rfl⟩))
    go_ret2
    exact ⟨ret_tup HP.out, HB1.out⟩
  cases b2 : inB k 0 (gs.length - 1)
  · have HP : Hid (#[Value.bool false, Value.bool false] = #[.bool (pGateOpen ⟨s, gs, ps⟩ k l).1, .bool (pGateOpen ⟨s, gs, ps⟩ k l).2]) := by show _ = _; simp [pGateOpen, b2]
    go_enter Try.func30, Try.ntmps30
    go_wp2_with (first | (go_at_call 141; refine (l8Works_c _ ⟨s, gs, ps⟩ _ (hm.later (by (repeat (first | exact Below.refl _ _ | apply Below.drew | apply below_drewN | (refine Below.setCell ?_ (by first | omega | (simp; done) | (simp; omega) | (dsimp only; omega)) _) | (refine Below.alloc ?_ (by first | omega | (simp; done) | (simp; omega) | (dsimp only; omega)) _)))))).mono ?_; rintro e w1 ⟨rfl, hb1⟩; obtain ⟨hc1, hf1, hz1⟩ := bcell3 hb1; have HB1 : Hid (Below w.heap.size w w1) := below_then (by (repeat (first | exact Below.refl _ _ | apply Below.drew | apply below_drewN | (refine Below.setCell ?_ (by first | omega | (simp; done) | (simp; omega) | (dsimp only; omega)) _) | (refine Below.alloc ?_ (by first | omega | (simp; done) | (simp; omega) | (dsimp only; omega)) _)))) hb1) | (go_at_call 147; refine (l1In_c _ _ _ _).mono ?_; rintro e w2 ⟨rfl, rfl⟩) | (go_at_call 133; refine (l2Set_c _ _).mono ?_; rintro e w3 ⟨rfl, rfl⟩))
    go_ret2
    exact ⟨ret_tup HP.out, HB1.out⟩
  cases b3 : setB l
  · have HP : Hid (#[Value.bool false, Value.bool false] = #[.bool (pGateOpen ⟨s, gs, ps⟩ k l).1, .bool (pGateOpen ⟨s, gs, ps⟩ k l).2]) := by show _ = _; simp [pGateOpen, b3]
    go_enter Try.func30, Try.ntmps30
    go_wp2_with (first | (go_at_call 141; refine (l8Works_c _ ⟨s, gs, ps⟩ _ (hm.later (by (repeat (first | exact Below.refl _ _ | apply Below.drew | apply below_drewN | (refine Below.setCell ?_ (by first | omega | (simp; done) | (simp; omega) | (dsimp only; omega)) _) | (refine Below.alloc ?_ (by first | omega | (simp; done) | (simp; omega) | (dsimp only; omega)) _)))))).mono ?_; rintro e w1 ⟨rfl, hb1⟩; obtain ⟨hc1, hf1, hz1⟩ := bcell3 hb1; have HB1 : Hid (Below w.heap.size w w1) := below_then (by (repeat (first | exact Below.refl _ _ | apply Below.drew | apply below_drewN | (refine Below.setCell ?_ (by first | omega | (simp; done) | (simp; omega) | (dsimp only; omega)) _) | (refine Below.alloc ?_ (by first | omega | (simp; done) | (simp; omega) | (dsimp only; omega)) _)))) hb1) | (go_at_call 147; refine (l1In_c _ _ _ _).mono ?_; rintro e w2 ⟨rfl, rfl⟩) | (go_at_call 133; refine (l2Set_c _ _).mono ?_; rintro e w3 ⟨rfl, rfl⟩))
    go_ret2
    exact ⟨ret_tup HP.out, HB1.out⟩
  obtain ⟨k0, k1⟩ := inB_true.1 b2
  obtain ⟨l0, l1⟩ := setB_true.1 b3
  have ok := worksB_true.1 b1
  obtain ⟨kn, rfl⟩ := Int.eq_ofNat_of_zero_le k0
  obtain ⟨ln, rfl⟩ := Int.eq_ofNat_of_zero_le l0
  have hkn : kn < gs.length := by omega
  have hln : ln < 64 := by omega
  obtain ⟨b, off, x, y, z, u, rfl, HX, hbs, e0, e1, e2, e3⟩ := hd.at kn hkn
  obtain ⟨f1, f2, f3, f4, f5, f6, f7⟩ := gate_facts ok hkn HX.out
  obtain ⟨zn, rfl⟩ := Int.eq_ofNat_of_zero_le f4
  have OK := Lib.hid ok; clear ok
  have HP : Hid (#[Value.bool (openB gs[kn]! ln), Value.bool true] = #[.bool (pGateOpen ⟨s, gs, ps⟩ kn ln).1, .bool (pGateOpen ⟨s, gs, ps⟩ kn ln).2]) := by show _ = _; simp [pGateOpen, b1, b2, b3]
  have hbs1 : b < w.heap.size + 1 := by omega
  go_enter Try.func30, Try.ntmps30
  go_wp2_with (first | (go_at_call 141; refine (l8Works_c _ ⟨s, gs, ps⟩ _ (hm.later (by (repeat (first | exact Below.refl _ _ | apply Below.drew | apply below_drewN | (refine Below.setCell ?_ (by first | omega | (simp; done) | (simp; omega) | (dsimp only; omega)) _) | (refine Below.alloc ?_ (by first | omega | (simp; done) | (simp; omega) | (dsimp only; omega)) _)))))).mono ?_; rintro e w1 ⟨rfl, hb1⟩; obtain ⟨hc1, hf1, hz1⟩ := bcell3 hb1; have HB1 : Hid (Below w.heap.size w w1) := below_then (by (repeat (first | exact Below.refl _ _ | apply Below.drew | apply below_drewN | (refine Below.setCell ?_ (by first | omega | (simp; done) | (simp; omega) | (dsimp only; omega)) _) | (refine Below.alloc ?_ (by first | omega | (simp; done) | (simp; omega) | (dsimp only; omega)) _)))) hb1) | (go_at_call 147; refine (l1In_c _ _ _ _).mono ?_; rintro e w2 ⟨rfl, rfl⟩) | (go_at_call 133; refine (l2Set_c _ _).mono ?_; rintro e w3 ⟨rfl, rfl⟩) | (go_at_call 148; refine (l8Open_c _ _ _ _ _ (by omega) (by omega) _).mono ?_; rintro e w4 ⟨rfl, hb4⟩))
  go_ret2
  refine ⟨ret_tup (Eq.trans ?_ HP.out), below_then HB1.out hb4⟩
  show #[Value.bool (openB (x, y, (zn : Int), u) ln), Value.bool true] = _
  rw [HX.out]
set_option maxHeartbeats 2000000 in
theorem implGateOpen_c (v : Value) (m : Wk) (k l : Int) (w : World) (hm : WkAt w v m) (wk : wfI k) (wl : wfI l) : Calls Try.prog 29 #[v, .int .i64 k, .int .i64 l] w fun e w' =>
    e = .returned (.tuple #[.bool (pGateOpen m k l).1, .bool (pGateOpen m k l).2]) ∧ Below w.heap.size w w' := by
  have hM := hm
  obtain ⟨⟨ad, cd, ak, ck, rfl, hd, hk'⟩, nd, nk⟩ := hM
  obtain ⟨s, gs, ps⟩ := m
  dsimp only at *
  cases b1 : worksB ⟨s, gs, ps⟩
  · have HP : Hid (#[Value.bool false, Value.bool false] = #[.bool (pGateOpen ⟨s, gs, ps⟩ k l).1, .bool (pGateOpen ⟨s, gs, ps⟩ k l).2]) := by show _ = _; simp [pGateOpen, b1]
    go_enter Try.func29, Try.ntmps29
    go_wp2_with (first | (go_at_call 52; refine (isWorks_c _ ⟨s, gs, ps⟩ _ (hm.later (by (repeat (first | exact Below.refl _ _ | apply Below.drew | apply below_drewN | (refine Below.setCell ?_ (by first | omega | (simp; done) | (simp; omega) | (dsimp only; omega)) _) | (refine Below.alloc ?_ (by first | omega | (simp; done) | (simp; omega) | (dsimp only; omega)) _)))))).mono ?_; rintro e w1 ⟨rfl, hb1⟩; obtain ⟨hc1, hf1, hz1⟩ := bcell3 hb1; have HB1 : Hid (Below w.heap.size w w1) := below_then (by (repeat (first | exact Below.refl _ _ | apply Below.drew | apply below_drewN | (refine Below.setCell ?_ (by first | omega | (simp; done) | (simp; omega) | (dsimp only; omega)) _) | (refine Below.alloc ?_ (by first | omega | (simp; done) | (simp; omega) | (dsimp only; omega)) _)))) hb1) | (go_at_call 145; refine (within_c _ _ _ _).mono ?_; rintro e w2 ⟨rfl, rfl⟩) | (go_at_call 137; refine (isSet_c _ _).mono ?_; rintro e w3 ⟨rfl, rfl⟩))
    go_ret2
    exact ⟨ret_tup HP.out, HB1.out⟩
  cases b2 : inB k 0 (gs.length - 1)
  · have HP : Hid (#[Value.bool false, Value.bool false] = #[.bool (pGateOpen ⟨s, gs, ps⟩ k l).1, .bool (pGateOpen ⟨s, gs, ps⟩ k l).2]) := by show _ = _; simp [pGateOpen, b2]
    go_enter Try.func29, Try.ntmps29
    go_wp2_with (first | (go_at_call 52; refine (isWorks_c _ ⟨s, gs, ps⟩ _ (hm.later (by (repeat (first | exact Below.refl _ _ | apply Below.drew | apply below_drewN | (refine Below.setCell ?_ (by first | omega | (simp; done) | (simp; omega) | (dsimp only; omega)) _) | (refine Below.alloc ?_ (by first | omega | (simp; done) | (simp; omega) | (dsimp only; omega)) _)))))).mono ?_; rintro e w1 ⟨rfl, hb1⟩; obtain ⟨hc1, hf1, hz1⟩ := bcell3 hb1; have HB1 : Hid (Below w.heap.size w w1) := below_then (by (repeat (first | exact Below.refl _ _ | apply Below.drew | apply below_drewN | (refine Below.setCell ?_ (by first | omega | (simp; done) | (simp; omega) | (dsimp only; omega)) _) | (refine Below.alloc ?_ (by first | omega | (simp; done) | (simp; omega) | (dsimp only; omega)) _)))) hb1) | (go_at_call 145; refine (within_c _ _ _ _).mono ?_; rintro e w2 ⟨rfl, rfl⟩) | (go_at_call 137; refine (isSet_c _ _).mono ?_; rintro e w3 ⟨rfl, rfl⟩))
    go_ret2
    exact ⟨ret_tup HP.out, HB1.out⟩
  cases b3 : setB l
  · have HP : Hid (#[Value.bool false, Value.bool false] = #[.bool (pGateOpen ⟨s, gs, ps⟩ k l).1, .bool (pGateOpen ⟨s, gs, ps⟩ k l).2]) := by show _ = _; simp [pGateOpen, b3]
    go_enter Try.func29, Try.ntmps29
    go_wp2_with (first | (go_at_call 52; refine (isWorks_c _ ⟨s, gs, ps⟩ _ (hm.later (by (repeat (first | exact Below.refl _ _ | apply Below.drew | apply below_drewN | (refine Below.setCell ?_ (by first | omega | (simp; done) | (simp; omega) | (dsimp only; omega)) _) | (refine Below.alloc ?_ (by first | omega | (simp; done) | (simp; omega) | (dsimp only; omega)) _)))))).mono ?_; rintro e w1 ⟨rfl, hb1⟩; obtain ⟨hc1, hf1, hz1⟩ := bcell3 hb1; have HB1 : Hid (Below w.heap.size w w1) := below_then (by (repeat (first | exact Below.refl _ _ | apply Below.drew | apply below_drewN | (refine Below.setCell ?_ (by first | omega | (simp; done) | (simp; omega) | (dsimp only; omega)) _) | (refine Below.alloc ?_ (by first | omega | (simp; done) | (simp; omega) | (dsimp only; omega)) _)))) hb1) | (go_at_call 145; refine (within_c _ _ _ _).mono ?_; rintro e w2 ⟨rfl, rfl⟩) | (go_at_call 137; refine (isSet_c _ _).mono ?_; rintro e w3 ⟨rfl, rfl⟩))
    go_ret2
    exact ⟨ret_tup HP.out, HB1.out⟩
  obtain ⟨k0, k1⟩ := inB_true.1 b2
  obtain ⟨l0, l1⟩ := setB_true.1 b3
  have ok := worksB_true.1 b1
  obtain ⟨kn, rfl⟩ := Int.eq_ofNat_of_zero_le k0
  obtain ⟨ln, rfl⟩ := Int.eq_ofNat_of_zero_le l0
  have hkn : kn < gs.length := by omega
  have hln : ln < 64 := by omega
  obtain ⟨b, off, x, y, z, u, rfl, HX, hbs, e0, e1, e2, e3⟩ := hd.at kn hkn
  obtain ⟨f1, f2, f3, f4, f5, f6, f7⟩ := gate_facts ok hkn HX.out
  obtain ⟨zn, rfl⟩ := Int.eq_ofNat_of_zero_le f4
  have OK := Lib.hid ok; clear ok
  have HP : Hid (#[Value.bool (openB gs[kn]! ln), Value.bool true] = #[.bool (pGateOpen ⟨s, gs, ps⟩ kn ln).1, .bool (pGateOpen ⟨s, gs, ps⟩ kn ln).2]) := by show _ = _; simp [pGateOpen, b1, b2, b3]
  have hbs1 : b < w.heap.size + 1 := by omega
  go_enter Try.func29, Try.ntmps29
  go_wp2_with (first | (go_at_call 52; refine (isWorks_c _ ⟨s, gs, ps⟩ _ (hm.later (by (repeat (first | exact Below.refl _ _ | apply Below.drew | apply below_drewN | (refine Below.setCell ?_ (by first | omega | (simp; done) | (simp; omega) | (dsimp only; omega)) _) | (refine Below.alloc ?_ (by first | omega | (simp; done) | (simp; omega) | (dsimp only; omega)) _)))))).mono ?_; rintro e w1 ⟨rfl, hb1⟩; obtain ⟨hc1, hf1, hz1⟩ := bcell3 hb1; have HB1 : Hid (Below w.heap.size w w1) := below_then (by (repeat (first | exact Below.refl _ _ | apply Below.drew | apply below_drewN | (refine Below.setCell ?_ (by first | omega | (simp; done) | (simp; omega) | (dsimp only; omega)) _) | (refine Below.alloc ?_ (by first | omega | (simp; done) | (simp; omega) | (dsimp only; omega)) _)))) hb1) | (go_at_call 145; refine (within_c _ _ _ _).mono ?_; rintro e w2 ⟨rfl, rfl⟩) | (go_at_call 137; refine (isSet_c _ _).mono ?_; rintro e w3 ⟨rfl, rfl⟩) | (go_at_call 146; refine (isOpen_c _ ⟨s, gs, ps⟩ _ (hm.later (by exact HB1.out)) OK.out _ _ (by show _ < gs.length; omega) (by omega) _ HX).mono ?_; rintro e w4 ⟨rfl, hb4⟩))
  go_ret2
  refine ⟨ret_tup (Eq.trans ?_ HP.out), below_then HB1.out hb4⟩
  show #[Value.bool (openB (x, y, (zn : Int), u) ln), Value.bool true] = _
  rw [HX.out]
end Go.Proofs.Ytmilpahggceemaa

namespace Go.KD
open Go.RowKit
def putG : List D4 → D4 → List D4
  | [], n => [n]
  | x :: l, n => if lt4 x n = true then x :: putG l n else if x = n then x :: l else n :: x :: l
theorem putG_eq : ∀ (l : List D4) (n : D4) (k : Nat), k ≤ l.length → (∀ j, j < k → lt4 l[j]! n = true) → (k < l.length → lt4 l[k]! n = false) → putG l n = if k < l.length ∧ l[k]! = n then l else l.take k ++ n :: l.drop k
  | [], n, k, hk, _, _ => by
    obtain rfl : k = 0 := by simpa using hk
    simp [putG]
  | x :: l, n, 0, _, _, h => by
    have h := h (by simp)
    simp only [List.getElem!_cons_zero] at h
    by_cases hx : x = n
    · subst hx; simp [putG, h]
    · simp [putG, h, hx]
  | x :: l, n, k + 1, hk, hj, h => by
    have h0 := hj 0 (by omega)
    simp only [List.getElem!_cons_zero] at h0
    have ih := putG_eq l n k (by simpa using hk) (fun j hjk => by have := hj (j + 1) (by omega); simpa using this) (fun hkl => by have := h (by simpa using hkl); simpa using this)
    simp only [putG, h0, if_true, ih, List.length_cons, Nat.add_lt_add_iff_right, List.getElem!_cons_succ, List.take_succ_cons, List.drop_succ_cons, List.cons_append]
    split <;> rfl
theorem mem_putG : ∀ (l : List D4) (n y : D4), y ∈ putG l n ↔ y ∈ l ∨ y = n
  | [], n, y => by simp [putG]
  | x :: l, n, y => by
    unfold putG
    split
    · simp [mem_putG l n y, or_assoc]
    · split
      · rename_i h; subst h; simp; intro h; exact .inl h
      · simp only [List.mem_cons]; constructor
        · rintro (h | h | h) <;> simp [h]
        · rintro ((h | h) | h) <;> simp [h]
theorem lt4_irrefl (a : D4) : lt4 a a = false := by simp [lt4]
theorem lt4_trans {a b c : D4} (h1 : lt4 a b = true) (h2 : lt4 b c = true) : lt4 a c = true := by
  obtain ⟨a1, a2, a3, a4⟩ := a
  obtain ⟨b1, b2, b3, b4⟩ := b
  obtain ⟨c1, c2, c3, c4⟩ := c
  simp only [lt4] at *
  (repeat' split at h1) <;> (repeat' split at h2) <;> simp only [decide_eq_true_eq] at * <;> (repeat' split) <;> simp only [decide_eq_true_eq] at * <;> omega
theorem lt4_tot {a b : D4} (h1 : lt4 a b = false) (h2 : lt4 b a = false) : a = b := by
  obtain ⟨a1, a2, a3, a4⟩ := a
  obtain ⟨b1, b2, b3, b4⟩ := b
  simp only [lt4] at *
  (repeat' split at h1) <;> (repeat' split at h2) <;> simp only [decide_eq_false_iff_not] at * <;> simp only [Prod.mk.injEq] <;> omega
theorem lt4_asymm {a b : D4} (h : lt4 a b = true) : lt4 b a = false := by
  cases h2 : lt4 b a
  · rfl
  · have := lt4_trans h h2; rw [lt4_irrefl] at this; cases this
theorem putG_sorted : ∀ (l : List D4) (n : D4), l.Pairwise (fun x y => lt4 x y = true) → (putG l n).Pairwise (fun x y => lt4 x y = true)
  | [], n, _ => by simp [putG]
  | x :: l, n, h => by
    rw [List.pairwise_cons] at h
    unfold putG
    split
    · rename_i hx
      rw [List.pairwise_cons]
      refine ⟨fun y hy => ?_, putG_sorted l n h.2⟩
      rcases (mem_putG l n y).1 hy with hy | rfl
      · exact h.1 y hy
      · exact hx
    · split
      · exact List.pairwise_cons.2 h
      · rename_i h1 h2
        have hnx : lt4 n x = true := by
          cases h3 : lt4 n x
          · exact absurd (lt4_tot (by simpa using h1) h3) h2
          · rfl
        rw [List.pairwise_cons]
        refine ⟨fun y hy => ?_, List.pairwise_cons.2 h⟩
        rcases List.mem_cons.1 hy with rfl | hy
        · exact hnx
        · exact lt4_trans hnx (h.1 y hy)
theorem sorted4_ext : ∀ (a b : List D4), a.Pairwise (fun x y => lt4 x y = true) → b.Pairwise (fun x y => lt4 x y = true) → (∀ x, x ∈ a ↔ x ∈ b) → a = b
  | [], [], _, _, _ => rfl
  | [], y :: b, _, _, h => absurd ((h y).2 (by simp)) (by simp)
  | x :: a, [], _, _, h => absurd ((h x).1 (by simp)) (by simp)
  | x :: a, y :: b, ha, hb, h => by
    rw [List.pairwise_cons] at ha hb
    have hxy : x = y := by
      rcases List.mem_cons.1 ((h x).1 (by simp)) with e | e
      · exact e
      · rcases List.mem_cons.1 ((h y).2 (by simp)) with e' | e'
        · exact e'.symm
        · have h1 := hb.1 x e; have h2 := ha.1 y e'
          rw [lt4_asymm h1] at h2; cases h2
    subst hxy
    congr 1
    refine sorted4_ext a b ha.2 hb.2 fun z => ⟨fun hz => ?_, fun hz => ?_⟩
    · rcases List.mem_cons.1 ((h z).1 (by simp [hz])) with e | e
      · have := ha.1 z hz; rw [e, lt4_irrefl] at this; cases this
      · exact e
    · rcases List.mem_cons.1 ((h z).2 (by simp [hz])) with e | e
      · have := hb.1 z hz; rw [e, lt4_irrefl] at this; cases this
      · exact e
/-- A gate under turned levers. -/
def turnD (l : Int) (g : D4) : Int := ((g.2.2.2.toNat ^^^ (popN (g.2.2.1.toNat &&& l.toNat) % 2) : Nat) : Int)
def turnG (l : Int) (g : D4) : D4 := (g.1, g.2.1, g.2.2.1, turnD l g)
def turnK (l : Int) (gs : List D4) (k : Nat) : List D4 := ((gs.take k).map (turnG l)).foldl putG []
def turnL (l : Int) (gs : List D4) : List D4 := turnK l gs gs.length
theorem turnK_step {l : Int} {gs : List D4} {k : Nat} (hk : k < gs.length) : turnK l gs (k + 1) = putG (turnK l gs k) (turnG l gs[k]!) := by
  unfold turnK
  rw [take_snoc hk, List.map_append, List.foldl_append]; rfl
theorem putG_len (l : List D4) (n : D4) : (putG l n).length ≤ l.length + 1 := by
  induction l with
  | nil => simp [putG]
  | cons x l ih => unfold putG; (repeat' split) <;> simp <;> omega
theorem turnK_len (l : Int) (gs : List D4) : ∀ k, k ≤ gs.length → (turnK l gs k).length ≤ k
  | 0, _ => by simp [turnK]
  | k + 1, hk => by
    rw [turnK_step (by omega)]
    have := turnK_len l gs k (by omega)
    have := putG_len (turnK l gs k) (turnG l gs[k]!)
    omega
theorem turnL_len (l : Int) (gs : List D4) : (turnL l gs).length ≤ gs.length := turnK_len l gs _ (Nat.le_refl _)
theorem foldl_putG : ∀ (gs A : List D4), A.Pairwise (fun x y => lt4 x y = true) → (gs.foldl putG A).Pairwise (fun x y => lt4 x y = true) ∧ ∀ x, x ∈ gs.foldl putG A ↔ x ∈ A ∨ x ∈ gs
  | [], A, h => ⟨h, fun x => by simp⟩
  | g :: gs, A, h => by
    have := foldl_putG gs (putG A g) (putG_sorted A g h)
    refine ⟨this.1, fun x => ?_⟩
    rw [List.foldl_cons, this.2, mem_putG, List.mem_cons]
    constructor
    · rintro ((h | h) | h) <;> simp [h]
    · rintro (h | h | h) <;> simp [h]
theorem turnL_ok (l : Int) (gs : List D4) : (turnL l gs).Pairwise (fun x y => lt4 x y = true) ∧ ∀ x, x ∈ turnL l gs ↔ x ∈ gs.map (turnG l) := by
  have := foldl_putG (gs.map (turnG l)) [] List.Pairwise.nil
  unfold turnL turnK
  rw [List.take_length]
  exact ⟨this.1, fun x => by rw [this.2]; simp⟩
/-- Gates in order are each there once. -/
theorem gates_sorted {m : Wk} (ok : WkOk m) : m.gates.Pairwise (fun x y => lt4 x y = true) := by
  have key : ∀ k, k < m.gates.length → ∀ i, i < k → lt4 m.gates[i]! m.gates[k]! = true := by
    intro k
    induction k with
    | zero => intro _ i hi; omega
    | succ k ih =>
      intro hk i hi
      have h1 : lt4 m.gates[k]! m.gates[k + 1]! = true := by
        have := ok.gt (k + 1) hk
        obtain ⟨a, b, c, d, hg⟩ : ∃ a b c d, m.gates[k + 1]! = (a, b, c, d) := ⟨_, _, _, _, rfl⟩
        rw [gateB_eq hg] at this
        rw [hg]
        simp only [Bool.and_eq_true] at this
        have h2 := this.2
        simpa using h2
      by_cases e : i = k
      · subst e; exact h1
      · exact lt4_trans (ih (by omega) i (by omega)) h1
  rw [List.pairwise_iff_getElem]
  intro i j hi hj hij
  have := key j hj i hij
  rwa [getElem!_pos m.gates i hi, getElem!_pos m.gates j hj] at this
theorem xor_inj {a b c : Nat} (h : a ^^^ c = b ^^^ c) : a = b := by
  have := congrArg (fun z => z ^^^ c) h
  simpa [Nat.xor_assoc] using this
theorem turn_nodup {m : Wk} (ok : WkOk m) (l : Int) : (m.gates.map (turnG l)).Nodup := by
  unfold List.Nodup
  rw [List.pairwise_map]
  refine List.Pairwise.imp_of_mem (fun {a b} ha hb hlt e => ?_) (gates_sorted ok)
  obtain ⟨i, hi, rfl⟩ := List.mem_iff_getElem.1 ha
  obtain ⟨j, hj, rfl⟩ := List.mem_iff_getElem.1 hb
  rw [← getElem!_pos m.gates i hi, ← getElem!_pos m.gates j hj] at *
  obtain ⟨a1, a2, a3, a4, hga⟩ : ∃ a b c d, m.gates[i]! = (a, b, c, d) := ⟨_, _, _, _, rfl⟩
  obtain ⟨b1, b2, b3, b4, hgb⟩ : ∃ a b c d, m.gates[j]! = (a, b, c, d) := ⟨_, _, _, _, rfl⟩
  have fa := gate_facts ok hi hga
  have fb := gate_facts ok hj hgb
  rw [hga, hgb] at hlt e
  simp only [turnG, turnD, Prod.mk.injEq] at e
  obtain ⟨rfl, rfl, rfl, e4⟩ := e
  have := xor_inj (Int.ofNat.inj e4)
  have : a4 = b4 := by omega
  subst this
  rw [lt4_irrefl] at hlt; cases hlt
/-- What is sorted and has the turned gates is the answer. -/
theorem turn_unique {m : Wk} (ok : WkOk m) (l : Int) {S : List D4} (hp : S.Perm (m.gates.map (turnG l))) (hs : S.Pairwise (fun x y => lt4 y x = false)) : S = turnL l m.gates := by
  have hn := hp.nodup_iff.2 (turn_nodup ok l)
  have h := turnL_ok l m.gates
  refine sorted4_ext _ _ ?_ h.1 fun x => by rw [h.2, hp.mem_iff]
  refine (List.Pairwise.and hs hn).imp fun {a b} ⟨h1, h2⟩ => ?_
  cases h3 : lt4 a b
  · exact absurd (lt4_tot h3 h1) h2
  · rfl
noncomputable def pTurnLevers (m : Wk) (l : Int) : Wk × Bool := if worksB m && setB l then (⟨m.size, turnL l m.gates, m.pulls⟩, true) else (⟨0, [], []⟩, false)
end Go.KD

namespace Go.KD
open Go.RowKit
/-- The numbers l lie behind a slice's address, in a block from base on, with room that is free. -/
def QAt (base : Nat) (w : World) (v : Value) (l : List Int) : Prop :=
  ∃ g off cap, v = .slice (some ⟨g, off, none⟩) l.length cap ∧ base ≤ g ∧ g < w.heap.size ∧ l.length ≤ cap ∧ cap ≤ maxLen ∧ (∀ j, j < l.length → w.cell? ⟨g, off + j, none⟩ = some (.int .i64 l[j]!)) ∧
    ∀ j, j < cap → (w.cell? ⟨g, off + j, none⟩).isSome = true ∧ w.frozen? ⟨g, off + j, none⟩ = false
theorem QAt.later {base : Nat} {w w' : World} {v : Value} {l : List Int} (h : QAt base w v l) (hb : Below w.heap.size w w') : QAt base w' v l := by
  obtain ⟨g, off, cap, hv, h1, h2, h3, h4, h5, h6⟩ := h
  refine ⟨g, off, cap, hv, h1, by have := hb.size; omega, h3, h4, fun j hj => ?_, fun j hj => ?_⟩
  · rw [hb.cell (p := ⟨g, off + j, none⟩) h2]; exact h5 j hj
  · rw [hb.cell (p := ⟨g, off + j, none⟩) h2, hb.frozen (p := ⟨g, off + j, none⟩) h2]; exact h6 j hj
theorem QAt.tail {base g off n cap : Nat} {w : World} {x : Int} {l : List Int} (h : QAt base w (.slice (some ⟨g, off, none⟩) n cap) (x :: l)) {a' : Addr} {n' cap' : Nat} (hn' : n' = l.length) (hc' : cap' = cap - 1) (ha' : a' = if cap = 1 then ⟨g, off, none⟩ else ⟨g, off + 1, none⟩) : QAt base w (.slice (some a') n' cap') l := by
  obtain ⟨g', off', cap0, hv, h1, h2, h3, h4, h5, h6⟩ := h
  cases hv
  subst hn'; subst hc'
  simp only [List.length_cons] at h3 h5
  by_cases hc : cap = 1
  · rw [if_pos hc] at ha'
    subst ha'
    refine ⟨g, off, cap - 1, rfl, h1, h2, by omega, by omega, fun j hj => by omega, fun j hj => by omega⟩
  · rw [if_neg hc] at ha'
    subst ha'
    refine ⟨g, off + 1, cap - 1, rfl, h1, h2, by omega, by omega, fun j hj => ?_, fun j hj => ?_⟩
    · rw [Nat.add_assoc, Nat.add_comm 1 j]
      have h5j := h5 (j + 1) (by omega)
      first | exact h5j | (rw [h5j]; simp; done) | (simp at h5j ⊢; exact h5j)
    · rw [Nat.add_assoc, Nat.add_comm 1 j]; exact h6 (j + 1) (by omega)
theorem below_setCells {base b : Nat} (hb : base ≤ b) : ∀ (vs : List Value) (o : Nat) (w : World), Below base w (w.setCells b o vs)
  | [], _, w => Below.refl _ _
  | v :: r, o, w => ((Below.refl base w).setCell (p := ⟨b, o, none⟩) hb v).trans (below_setCells hb r (o + 1) _)
theorem size_setCells (b : Nat) : ∀ (vs : List Value) (o : Nat) (w : World), (w.setCells b o vs).heap.size = w.heap.size
  | [], _, w => rfl
  | v :: r, o, w => by rw [World.setCells, size_setCells b r]; simp
/-- News out of a slice of numbers. -/
theorem src_ints {P : Program} {w : World} {t e : TypeId} (ht : P.underlying t = some (.slice e)) (a : Option Addr) (c : Nat) (l : List Int) (h : IC w a l) : Src P 1 t (.slice a l.length c) l.length (ints l) w := by
  cases a with
  | none =>
    have h0 : l = [] := by
      cases l with
      | nil => rfl
      | cons x l => obtain ⟨b, off, h, _⟩ := h 0 (by simp); cases h
    subst h0
    exact Src.ofNil w ht c
  | some ad =>
    refine Src.ofSlice w ht ad l.length c (ints l) (by simp) (fun j u hu => ?_) (fun u hu => ?_)
    · have hj : j < l.length := by
        rcases Nat.lt_or_ge j l.length with h | h
        · exact h
        · rw [List.getElem?_eq_none (by simpa using h)] at hu; cases hu
      obtain ⟨b, off, hb, hbs, hc⟩ := h j hj
      cases hb
      rw [add_at rfl, hc, ← hu, ints, List.getElem?_map, List.getElem?_eq_getElem hj, getElem!_pos l j hj]
      rfl
    · simp only [ints, List.mem_map] at hu
      obtain ⟨x, _, rfl⟩ := hu
      rfl
theorem get_app {l k : List Int} {j : Nat} : (l ++ k)[j]! = if j < l.length then l[j]! else k[j - l.length]! := by
  by_cases h : j < l.length
  · rw [if_pos h, getElem!_def, getElem!_def, List.getElem?_append_left h]
  · rw [if_neg h, getElem!_def, getElem!_def, List.getElem?_append_right (by omega)]
theorem run_append_queue {P : Program} (w : World) (t ty e : TypeId) (i : TypeInfo) (z : Value) (ht : P.underlying t = some (.slice e)) (hi : P.info? e = some i) (hz : i.zero = some z) (hsize : i.size = 1) (hby : i.bytes = 8) (hzs : z.cells.size = 1)
    (base : Nat) (v : Value) (l : List Int) (hq : QAt base w v l) (a : Option Addr) (c : Nat) (k : List Int) (hk : IC w a k) (hl : l.length + k.length ≤ 1000000) (hbase : base ≤ w.heap.size) :
    ∃ v' w', (Builtin.append_ #[t, t] ty #[v, .slice a k.length c]).run P w = .ok v' w' ∧ QAt base w' v' (l ++ k) ∧ Below base w w' := by
  obtain ⟨g, off, cap, rfl, h1, h2, h3, h4, h5, h6⟩ := hq
  have hs := src_ints (P := P) ht a c k hk
  rw [← hsize] at hs
  by_cases hfit : l.length + k.length ≤ cap
  · have hrun := run_append_room_src (P := P) w t t ty e i ht hi g off l.length cap _ k.length (ints k) hs hfit (fun j hj => by
      rw [hsize, Nat.mul_one, Nat.add_assoc]; exact (h6 (l.length + j) (by rw [length_ints] at hj; omega)).1) (fun j hj => by
      rw [hsize, Nat.mul_one, Nat.add_assoc]; exact (h6 (l.length + j) (by rw [length_ints] at hj; omega)).2)
    rw [hsize, Nat.mul_one] at hrun
    have hsome : ∀ j, j < (ints k).length → (w.cell? ⟨g, off + l.length + j, none⟩).isSome = true := fun j hj => by
      rw [Nat.add_assoc]; exact (h6 (l.length + j) (by rw [length_ints] at hj; omega)).1
    refine ⟨_, _, hrun, ⟨g, off, cap, by rw [List.length_append], h1, by rw [size_setCells]; exact h2, by rw [List.length_append]; exact hfit, h4, fun j hj => ?_, fun j hj => ?_⟩, below_setCells h1 _ _ _⟩
    · rw [get_app]
      rw [List.length_append] at hj
      by_cases hjl : j < l.length
      · rw [if_pos hjl, World.cell?_setCells_out g _ _ _ _ (fun _ _ => Or.inl (by show off + j < off + l.length; omega))]
        exact h5 j hjl
      · rw [if_neg hjl]
        have := World.cell?_setCells_in g (ints k) (off + l.length) w hsome (j - l.length) (by rw [length_ints]; omega)
        rw [show off + l.length + (j - l.length) = off + j by omega] at this
        rw [this]
        simp only [ints, List.getElem_map]
        rw [getElem!_pos k (j - l.length) (by omega)]
    · rw [World.frozen?_setCells]
      refine ⟨?_, (h6 j hj).2⟩
      by_cases hjl : off + l.length ≤ off + j ∧ off + j < off + l.length + (ints k).length
      · have := World.cell?_setCells_in g (ints k) (off + l.length) w hsome (j - l.length) (by omega)
        rw [show off + l.length + (j - l.length) = off + j by omega] at this
        rw [this]; rfl
      · rw [World.cell?_setCells_out g _ _ _ _ (fun _ _ => by show off + j < off + l.length ∨ off + l.length + (ints k).length ≤ off + j; omega)]
        exact (h6 j hj).1
  · have hold : (Builtin.firstCells i.size l.length (.slice (some ⟨g, off, none⟩) l.length cap)).run P w.drew = .ok (ints l).toArray w.drew := by
      refine run_firstCells_some w.drew i.size l.length ⟨g, off, none⟩ l.length cap (ints l) (by rw [hsize]; simp) (fun j u hu => ?_)
      have hj : j < l.length := by
        rcases Nat.lt_or_ge j l.length with h | h
        · exact h
        · rw [List.getElem?_eq_none (by simpa using h)] at hu; cases hu
      rw [add_at rfl]
      show w.cell? ⟨g, off + j, none⟩ = some u
      rw [h5 j hj, ← hu, ints, List.getElem?_map, List.getElem?_eq_getElem hj, getElem!_pos l j hj]
      rfl
    have hge := grownCap_ge w (l.length + k.length) cap e
    have hcm := grownCap_le_maxLen w (l.length + k.length) cap e (by unfold maxLen; omega)
    have hrun := run_append_grow_src (P := P) w t t ty e i z ht hi hz (some ⟨g, off, none⟩) l.length cap (ints l) hold _ k.length (ints k) hs (by omega) (by omega) (by rw [hby]; exact growslice_fits (by omega) (by omega))
    have hL : (ints l ++ ints k).length = l.length + k.length := by simp
    refine ⟨_, _, hrun, ⟨w.heap.size, 0, _, by rw [List.length_append], hbase, by simp, by rw [List.length_append]; omega, hcm, fun j hj => ?_, fun j hj => ?_⟩, ((Below.refl base w).drew).alloc (by simpa using hbase) _⟩
    · rw [List.length_append] at hj
      rw [Nat.zero_add]
      have e1 : (w.drew.alloc (.cells ((ints l ++ ints k).toArray ++ Builtin.zeroCells z.cells (grownCap w (l.length + k.length) cap e - (l.length + k.length))) e)).cell? ⟨w.heap.size, j, none⟩ = _ := World.cell?_alloc_new w.drew _ _ j
      rw [e1, Array.getElem?_append_left (by simp only [List.size_toArray]; omega), List.getElem?_toArray, ← show ints (l ++ k) = ints l ++ ints k from by simp [ints], ints, List.getElem?_map, List.getElem?_eq_getElem (by rw [List.length_append]; omega), getElem!_pos (l ++ k) j (by rw [List.length_append]; omega)]
      rfl
    · rw [Nat.zero_add]
      have e1 : (w.drew.alloc (.cells ((ints l ++ ints k).toArray ++ Builtin.zeroCells z.cells (grownCap w (l.length + k.length) cap e - (l.length + k.length))) e)).cell? ⟨w.heap.size, j, none⟩ = _ := World.cell?_alloc_new w.drew _ _ j
      have hsz : ((ints l ++ ints k).toArray ++ Builtin.zeroCells z.cells (grownCap w (l.length + k.length) cap e - (l.length + k.length))).size = grownCap w (l.length + k.length) cap e := by
        rw [Array.size_append, List.size_toArray, hL, size_zeroCells, hzs]; omega
      refine ⟨?_, World.frozen?_alloc_new w.drew _ _ j⟩
      rw [e1, Array.getElem?_eq_getElem (by rw [hsz]; exact hj)]
      rfl
end Go.KD
namespace Go
open Go.RowKit Go.KD
theorem step_append_queue {P : Program} (w : World) {ops : Array Oper} {o : Oper} {a : Act} {K : Act → World → Prop} {Q : Exit → Act → World → Prop} {E : Prop} (hgd : o.guard = none) (s x : Operand) (t : TypeId)
    (ho : o.op = .call { callee := .builtin .append, args := #[s, x], argTypes := #[t, t] })
    (e : TypeId) (i : TypeInfo) (z : Value) (ht : P.underlying t = some (.slice e)) (hi : P.info? e = some i) (hz : i.zero = some z) (hsize : i.size = 1) (hby : i.bytes = 8) (hzs : z.cells.size = 1)
    (base : Nat) (v : Value) (l : List Int) (hs : a.eval s = v) (hq : QAt base w v l) (ad : Option Addr) (c : Nat) (k : List Int) (hx : a.eval x = .slice ad k.length c) (hk : IC w ad k) (hl : l.length + k.length ≤ 1000000) (hbase : base ≤ w.heap.size)
    (h : ∀ v' w', QAt base w' v' (l ++ k) → Below base w w' → K (a.put o.dst v') w') :
    if Region.wanted o (yielded ops a.tmps) = true then Oper.wp P o a w K Q else E := by
  have hw : Region.wanted o (yielded ops a.tmps) = true := by simp [Region.wanted, hgd]
  rw [if_pos hw]
  obtain ⟨v', w', hr, h2, h3⟩ := run_append_queue (P := P) w t o.type e i z ht hi hz hsize hby hzs base v l hq ad c k hk hl hbase
  unfold Oper.wp execOp
  simp only [ho, resolve, invoke, builtin, Sem.run_bind, Sem.run_pure, Result.andThen_ok, List.map_toArray, List.map_cons, List.map_nil, hs, hx, hr]
  exact h v' w' h2 h3
end Go

namespace Go.KD
open Go.RowKit
/-- Does the set s have all colours of o? -/
def subB (o s : Nat) : Bool := andn o s == 0
theorem subB_iff {o s : Nat} : subB o s = true ↔ ∀ i, o.testBit i = true → s.testBit i = true := by
  unfold subB
  rw [beq_iff_eq]
  constructor
  · intro h i hi
    have := congrArg (fun z => Nat.testBit z i) h
    simp only [andn_bit, Nat.zero_testBit, hi, Bool.true_and, Bool.not_eq_false'] at this
    exact this
  · intro h
    apply Nat.eq_of_testBit_eq
    intro i
    rw [andn_bit, Nat.zero_testBit]
    cases ho : o.testBit i
    · rfl
    · rw [h i ho]; rfl
theorem subB_and (o s : Nat) : (s &&& o == o) = subB o s := by
  rw [Bool.eq_iff_iff, subB_iff, beq_iff_eq]
  constructor
  · intro h i hi
    have := congrArg (fun z => Nat.testBit z i) h
    simp only [Nat.testBit_and, hi, Bool.and_true] at this
    exact this
  · intro h
    apply Nat.eq_of_testBit_eq
    intro i
    rw [Nat.testBit_and]
    cases ho : o.testBit i
    · simp
    · rw [h i ho]; rfl
theorem lt_of_bits {x n : Nat} (h : ∀ i, x.testBit i = true → i < n) : x < 2 ^ n := by
  apply Nat.lt_pow_two_of_testBit
  intro i hi
  cases hx : x.testBit i
  · rfl
  · have := h i hx; omega
theorem bit_lt {x n i : Nat} (h : x < 2 ^ n) (hi : x.testBit i = true) : i < n := by
  rcases Nat.lt_or_ge i n with h' | h'
  · exact h'
  · rw [Nat.testBit_lt_two_pow (Nat.lt_of_lt_of_le h (Nat.pow_le_pow_right (by decide) h'))] at hi; cases hi
theorem door_facts {m : Mz} (h : MzOk m) {k : Nat} (hk : k < m.doors.length) {x y z : Int} (hg : m.doors[k]! = (x, y, z)) : 0 ≤ x ∧ x < y ∧ y < m.size ∧ 0 ≤ z ∧ z < 64 := by
  have := h.dr k hk
  rw [doorB_eq hg] at this
  simp only [Bool.and_eq_true, inB_true, setB_true] at this
  omega
theorem key_facts {m : Mz} (h : MzOk m) {k : Nat} (hk : k < m.keys.length) : 0 ≤ m.keys[k]! ∧ m.keys[k]! < 64 := by
  have := setB_true.1 (h.ks k hk)
  omega
theorem setN_bit (s : Nat) (a : Int) (i : Nat) : (setN s a).testBit i = (s.testBit i || decide (a.toNat = i)) := by
  unfold setN; rw [Nat.testBit_or, Nat.testBit_two_pow]
/-- A door as a step from x with the colours s. -/
def joinD (x : Int) (s acc : Nat) (d : D3) : Nat :=
  if subB d.2.2.toNat s then (if d.2.1 = x then setN (if d.1 = x then setN acc d.2.1 else acc) d.1 else (if d.1 = x then setN acc d.2.1 else acc)) else acc
def stK (ds : List D3) (x : Int) (s k : Nat) : Nat := (ds.take k).foldl (joinD x s) 0
def stN (m : Mz) (x : Int) (s : Nat) : Nat := stK m.doors x s m.doors.length
/-- Is a door between x and y, and open with the colours s? -/
def opnD (x y : Int) (s : Nat) (d : D3) : Bool := ((d.1 == x && d.2.1 == y) || (d.1 == y && d.2.1 == x)) && subB d.2.2.toNat s
def opnB (m : Mz) (x y : Int) (s : Nat) : Bool := m.doors.any (opnD x y s)
theorem st_step {ds : List D3} {x : Int} {s k : Nat} (hk : k < ds.length) : stK ds x s (k + 1) = joinD x s (stK ds x s k) ds[k]! := by
  unfold stK
  rw [take_snoc hk, List.foldl_append]
  rfl
theorem joinD_bit {x : Int} {s acc : Nat} {d : D3} {i : Nat} (h1 : 0 ≤ d.1) (h2 : 0 ≤ d.2.1) : (joinD x s acc d).testBit i = (acc.testBit i || opnD x i s d) := by
  obtain ⟨a, b, c⟩ := d
  dsimp only at h1 h2
  unfold joinD opnD
  dsimp only
  cases hs : subB c.toNat s
  · simp
  · have e1 : (decide (a.toNat = i)) = (a == (i : Int)) := by rw [Bool.eq_iff_iff]; simp; omega
    have e2 : (decide (b.toNat = i)) = (b == (i : Int)) := by rw [Bool.eq_iff_iff]; simp; omega
    have fa : (if a = x then setN acc b else acc).testBit i = (acc.testBit i || (a == x && b == (i : Int))) := by
      by_cases ha : a = x
      · rw [if_pos ha, setN_bit, e2, ha]; simp
      · have : (a == x) = false := by simpa using ha
        rw [if_neg ha, this]; simp
    by_cases hb : b = x
    · rw [if_pos rfl, if_pos hb, setN_bit, fa, e1, hb]
      simp [Bool.or_assoc]
    · have : (b == x) = false := by simpa using hb
      rw [if_pos rfl, if_neg hb, fa, this]; simp
theorem stK_bit {m : Mz} (ok : MzOk m) (x : Int) (s i : Nat) : ∀ k, k ≤ m.doors.length → (stK m.doors x s k).testBit i = (m.doors.take k).any (opnD x i s)
  | 0, _ => by simp [stK]
  | k + 1, hk => by
    have hk' : k < m.doors.length := by omega
    obtain ⟨a, b, c, hg⟩ : ∃ a b c, m.doors[k]! = (a, b, c) := ⟨_, _, _, rfl⟩
    have f := door_facts ok hk' hg
    rw [st_step hk', joinD_bit (by rw [hg]; exact f.1) (by rw [hg]; show 0 ≤ b; omega), stK_bit ok x s i k (by omega), take_snoc hk', List.any_append]
    simp
theorem stN_bit {m : Mz} (ok : MzOk m) (x : Int) (s i : Nat) : (stN m x s).testBit i = opnB m x i s := by
  unfold stN opnB
  rw [stK_bit ok x s i _ (Nat.le_refl _), List.take_length]
theorem opnB_iff {m : Mz} {x y : Int} {s : Nat} : opnB m x y s = true ↔ ∃ k, k < m.doors.length ∧ opnD x y s m.doors[k]! = true := by
  unfold opnB
  rw [List.any_eq_true]
  constructor
  · rintro ⟨d, hd, h⟩
    obtain ⟨k, hk, rfl⟩ := List.mem_iff_getElem.1 hd
    exact ⟨k, hk, by rwa [getElem!_pos m.doors k hk]⟩
  · rintro ⟨k, hk, h⟩
    exact ⟨_, List.getElem_mem hk, by rwa [getElem!_pos m.doors k hk] at h⟩
theorem opn_range {m : Mz} (ok : MzOk m) {x y : Int} {s : Nat} (h : opnB m x y s = true) : 0 ≤ x ∧ x < m.size ∧ 0 ≤ y ∧ y < m.size := by
  obtain ⟨k, hk, h⟩ := opnB_iff.1 h
  obtain ⟨a, b, c, hg⟩ : ∃ a b c, m.doors[k]! = (a, b, c) := ⟨_, _, _, rfl⟩
  have f := door_facts ok hk hg
  rw [hg] at h
  simp only [opnD, Bool.and_eq_true, Bool.or_eq_true, beq_iff_eq] at h
  omega
theorem stK_lt {m : Mz} (ok : MzOk m) (x : Int) (s k : Nat) (hk : k ≤ m.doors.length) : stK m.doors x s k < 4096 := by
  have hs := ok.s2
  refine lt_of_bits (n := 12) fun i hi => ?_
  rw [stK_bit ok x s i k hk, List.any_eq_true] at hi
  obtain ⟨d, hd, h⟩ := hi
  have := opn_range ok (x := x) (y := i) (s := s) (by unfold opnB; rw [List.any_eq_true]; exact ⟨d, List.mem_of_mem_take hd, h⟩)
  omega
theorem stN_lt {m : Mz} (ok : MzOk m) (x : Int) (s : Nat) : stN m x s < 4096 := stK_lt ok x s _ (Nat.le_refl _)
/-- The colours of the keys at nodes of a list. -/
def keysL (m : Mz) (l : List Int) : Nat := l.foldl (fun a x => a ||| m.keys[x.toNat]!.toNat) 0
def unionL (m : Mz) (s : Nat) (l : List Int) : Nat := l.foldl (fun a x => a ||| stN m x s) 0
def keyN (m : Mz) (n : Nat) : Nat := keysL m (mem n)
/-- The nodes that can be entered behind some nodes. -/
def nexN (m : Mz) (n : Nat) : Nat := andn (unionL m (keyN m n) (mem n)) n
theorem keysL_snoc (m : Mz) (l : List Int) (x : Int) : keysL m (l ++ [x]) = keysL m l ||| m.keys[x.toNat]!.toNat := by simp [keysL]
theorem unionL_snoc (m : Mz) (s : Nat) (l : List Int) (x : Int) : unionL m s (l ++ [x]) = unionL m s l ||| stN m x s := by simp [unionL]
theorem fold_or_bit {α : Type} (f : α → Nat) (i : Nat) : ∀ (l : List α) (a : Nat), (l.foldl (fun a x => a ||| f x) a).testBit i = (a.testBit i || l.any fun x => (f x).testBit i)
  | [], a => by simp
  | x :: l, a => by rw [List.foldl_cons, fold_or_bit f i l, Nat.testBit_or, List.any_cons, Bool.or_assoc]
theorem keysL_bit (m : Mz) (l : List Int) (i : Nat) : (keysL m l).testBit i = l.any fun x => (m.keys[x.toNat]!.toNat).testBit i := by unfold keysL; rw [fold_or_bit]; simp
theorem unionL_bit (m : Mz) (s : Nat) (l : List Int) (i : Nat) : (unionL m s l).testBit i = l.any fun x => (stN m x s).testBit i := by unfold unionL; rw [fold_or_bit]; simp
theorem keys_lt {m : Mz} (ok : MzOk m) (k : Nat) : m.keys[k]!.toNat < 64 := by
  rcases Nat.lt_or_ge k m.keys.length with h | h
  · have := key_facts ok h; omega
  · rw [getElem!_def, List.getElem?_eq_none h]; decide
theorem keysL_lt {m : Mz} (ok : MzOk m) (l : List Int) : keysL m l < 64 := by
  refine lt_of_bits (n := 6) fun i hi => ?_
  rw [keysL_bit, List.any_eq_true] at hi
  obtain ⟨x, _, h⟩ := hi
  exact bit_lt (n := 6) (keys_lt ok _) h
theorem unionL_lt {m : Mz} (ok : MzOk m) (s : Nat) (l : List Int) : unionL m s l < 4096 := by
  refine lt_of_bits (n := 12) fun i hi => ?_
  rw [unionL_bit, List.any_eq_true] at hi
  obtain ⟨x, _, h⟩ := hi
  exact bit_lt (n := 12) (stN_lt ok _ _) h
theorem nexN_lt {m : Mz} (ok : MzOk m) (n : Nat) : nexN m n < 4096 := andn_lt (n := 12) (unionL_lt ok _ _)
theorem nexN_bit {m : Mz} (ok : MzOk m) {n : Nat} (hn : n < 4096) (y : Nat) : (nexN m n).testBit y = true ↔ n.testBit y = false ∧ ∃ x : Nat, n.testBit x = true ∧ opnB m x y (keyN m n) = true := by
  unfold nexN
  rw [andn_bit, Bool.and_eq_true, Bool.not_eq_true', unionL_bit, List.any_eq_true]
  constructor
  · rintro ⟨⟨x, hx, h⟩, h0⟩
    obtain ⟨i, _, hi, rfl⟩ := (in_mem n x).1 hx
    exact ⟨h0, i, hi, by rw [← stN_bit ok]; exact h⟩
  · rintro ⟨h0, x, hx, h⟩
    refine ⟨⟨x, (in_mem n x).2 ⟨x, by have := bit_lt (n := 12) hn hx; omega, hx, rfl⟩, by rw [stN_bit ok]; exact h⟩, h0⟩
theorem nexN_size {m : Mz} (ok : MzOk m) {n y : Nat} (hn : n < 4096) (h : (nexN m n).testBit y = true) : (y : Int) < m.size := by
  obtain ⟨_, x, _, h⟩ := (nexN_bit ok hn y).1 h
  exact (opn_range ok h).2.2.2
theorem memK_all {x : Nat} {s : Nat} (hs : s ≤ 40) (h : ∀ i, x.testBit i = true → i < s) : memK x s = mem x := by
  rw [mem_eq, show (40 : Nat) = s + (40 - s) from by omega]
  symm
  apply memK_end
  rw [Nat.shiftRight_eq_div_pow]
  exact Nat.div_eq_of_lt (lt_of_bits h)
theorem mem_len40' (x : Nat) : (mem x).length ≤ 40 := by rw [mem_eq]; exact memK_len _ _
theorem mem_popN {x : Nat} (hx : x < 4096) : (mem x).length = popN x := by
  rw [← memK_all (s := 12) (by omega) fun i hi => bit_lt (n := 12) hx hi]
  simp [memK, popN]
theorem hasI_mem {x : Nat} (hx : x < 1099511627776) (y : Int) : y ∈ mem x ↔ 0 ≤ y ∧ x.testBit y.toNat = true := by
  rw [in_mem]
  constructor
  · rintro ⟨i, h1, h2, rfl⟩; exact ⟨by omega, by simpa using h2⟩
  · rintro ⟨h1, h2⟩; exact ⟨y.toNat, bit_lt (n := 40) hx h2, h2, by omega⟩
/-! The largest entry set -/
def lgN (m : Mz) (code out : Nat) : Nat := out ||| (nexN m out &&& code)
def itL (m : Mz) (code : Nat) : Nat → Nat
  | 0 => code &&& 1
  | k + 1 => lgN m code (itL m code k)
def largN (m : Mz) (code : Nat) : Nat := itL m code 4096
theorem itL_lt {m : Mz} (ok : MzOk m) (code : Nat) : ∀ k, itL m code k < 4096
  | 0 => Nat.lt_of_le_of_lt Nat.and_le_right (by decide)
  | k + 1 => Nat.or_lt_two_pow (n := 12) (itL_lt ok code k) (Nat.lt_of_le_of_lt Nat.and_le_left (nexN_lt ok _))
theorem itL_end {m : Mz} {code k : Nat} (h : nexN m (itL m code k) &&& code = 0) : ∀ j, itL m code (k + j) = itL m code k
  | 0 => rfl
  | j + 1 => by
    show lgN m code (itL m code (k + j)) = _
    rw [itL_end h j, lgN, h, Nat.or_zero]
theorem largN_end {m : Mz} (ok : MzOk m) {code k : Nat} (hk : k ≤ itL m code k) (h : nexN m (itL m code k) &&& code = 0) : largN m code = itL m code k := by
  have := itL_lt ok code k
  unfold largN
  rw [show 4096 = k + (4096 - k) from by omega, itL_end h]
theorem lgN_grows {m : Mz} {code out : Nat} (h : nexN m out &&& code ≠ 0) : out < lgN m code out := by
  unfold lgN
  have h1 : out ≤ out ||| (nexN m out &&& code) := Nat.left_le_or
  rcases Nat.lt_or_ge out (out ||| (nexN m out &&& code)) with h2 | h2
  · exact h2
  · exfalso
    apply h
    have e : out ||| (nexN m out &&& code) = out := by omega
    apply Nat.eq_of_testBit_eq
    intro i
    have := congrArg (fun z => Nat.testBit z i) e
    simp only [Nat.testBit_or, Nat.testBit_and, nexN, andn_bit, Nat.zero_testBit] at this ⊢
    cases ho : out.testBit i <;> simp_all
theorem lgN_same {m : Mz} {code out : Nat} (h : lgN m code out = out) : nexN m out &&& code = 0 := by
  rcases Nat.eq_zero_or_pos (nexN m out &&& code) with h0 | h0
  · exact h0
  · have := lgN_grows (m := m) (code := code) (out := out) (by omega); omega
/-! Entry orders -/
def ordOk (m : Mz) (l : List Int) (k n : Nat) : Bool := inB l[k]! 0 (m.size - 1) && (if k = 0 then l[k]! == 0 else (nexN m n).testBit l[k]!.toNat)
def ordK (m : Mz) (l : List Int) : Nat → Option Nat
  | 0 => some 0
  | k + 1 => match ordK m l k with | none => none | some n => if ordOk m l k n then some (setN n l[k]!) else none
def ordP (m : Mz) (l : List Int) : Nat × Bool := if l.length = 0 then (0, false) else match ordK m l l.length with | some n => (n, true) | none => (0, false)
theorem ordK_none {m : Mz} {l : List Int} {k : Nat} (h : ordK m l k = none) : ∀ j, ordK m l (k + j) = none
  | 0 => h
  | j + 1 => by show ordK m l ((k + j) + 1) = none; unfold ordK; rw [ordK_none h j]
theorem ordK_lt {m : Mz} (ok : MzOk m) {l : List Int} : ∀ k n, ordK m l k = some n → n < 4096
  | 0, n, h => by simp only [ordK, Option.some.injEq] at h; omega
  | k + 1, n, h => by
    unfold ordK at h
    split at h
    · cases h
    · rename_i n0 h0
      have ih := ordK_lt ok k n0 h0
      split at h
      · rename_i hb
        simp only [Option.some.injEq] at h
        simp only [ordOk, Bool.and_eq_true, inB_true] at hb
        have := ok.s2
        rw [← h]; exact setN_lt ih (by omega)
      · cases h
theorem ordP_bad {m : Mz} {l : List Int} {k n : Nat} (hk : k < l.length) (h : ordK m l k = some n) (hb : ordOk m l k n = false) : ordP m l = (0, false) := by
  have h1 : ordK m l (k + 1) = none := by unfold ordK; rw [h]; simp [hb]
  have h2 := ordK_none h1 (l.length - (k + 1))
  rw [show k + 1 + (l.length - (k + 1)) = l.length from by omega] at h2
  unfold ordP
  rw [if_neg (by omega), h2]
theorem ordP_good {m : Mz} {l : List Int} {n : Nat} (hl : l.length ≠ 0) (h : ordK m l l.length = some n) : ordP m l = (n, true) := by
  unfold ordP
  rw [if_neg hl, h]
/-! Rising lists of nodes -/
def riseB (m : Mz) (l : List Int) (k : Nat) : Bool := inB l[k]! 0 (m.size - 1) && (k == 0 || decide (l[k-1]! < l[k]!))
def codeK (l : List Int) (k : Nat) : Nat := (l.take k).foldl setN 0
def codeL (l : List Int) : Nat := codeK l l.length
open Classical in
noncomputable def risesB (m : Mz) (l : List Int) : Bool := decide (∀ k, k < l.length → riseB m l k = true)
theorem risesB_true {m : Mz} {l : List Int} : risesB m l = true ↔ ∀ k, k < l.length → riseB m l k = true := by simp [risesB]
theorem risesB_no {m : Mz} {l : List Int} {k : Nat} (hk : k < l.length) (h : riseB m l k = false) : risesB m l = false := by
  rw [Bool.eq_false_iff, ne_eq, risesB_true]
  intro h'
  rw [h' k hk] at h; cases h
theorem codeK_step {l : List Int} {k : Nat} (hk : k < l.length) : codeK l (k + 1) = setN (codeK l k) l[k]! := by
  unfold codeK
  rw [take_snoc hk, List.foldl_append]
  rfl
theorem codeK_lt {m : Mz} (ok : MzOk m) {l : List Int} : ∀ k, k ≤ l.length → (∀ j, j < k → inB l[j]! 0 (m.size - 1) = true) → codeK l k < 4096
  | 0, _, _ => by simp [codeK]
  | k + 1, hk, h => by
    rw [codeK_step (by omega)]
    have := ok.s2
    have h1 := inB_true.1 (h k (by omega))
    exact setN_lt (codeK_lt ok k (by omega) fun j hj => h j (by omega)) (by omega)
theorem riseB_in {m : Mz} {l : List Int} {k : Nat} (h : riseB m l k = true) : inB l[k]! 0 (m.size - 1) = true := by
  simp only [riseB, Bool.and_eq_true] at h; exact h.1
theorem codeK_bit (l : List Int) (i : Nat) : ∀ k, k ≤ l.length → (codeK l k).testBit i = (l.take k).any fun x => decide (x.toNat = i)
  | 0, _ => by simp [codeK]
  | k + 1, hk => by
    rw [codeK_step (by omega), setN_bit, codeK_bit l i k (by omega), take_snoc (by omega), List.any_append]
    simp
/-- Has a list of nodes the node 0? -/
theorem codeL_zero {m : Mz} {l : List Int} (h : risesB m l = true) : (codeL l).testBit 0 = l.any (fun x => decide (x = 0)) := by
  unfold codeL
  rw [codeK_bit l 0 _ (Nat.le_refl _), List.take_length, Bool.eq_iff_iff, List.any_eq_true, List.any_eq_true]
  constructor
  · rintro ⟨x, hx, h1⟩
    obtain ⟨j, hj, rfl⟩ := List.mem_iff_getElem.1 hx
    have := inB_true.1 (riseB_in (risesB_true.1 h j hj))
    rw [getElem!_pos l j hj] at this
    exact ⟨_, hx, by simp at h1 ⊢; omega⟩
  · rintro ⟨x, hx, h1⟩
    exact ⟨x, hx, by simp at h1 ⊢; omega⟩
end Go.KD
