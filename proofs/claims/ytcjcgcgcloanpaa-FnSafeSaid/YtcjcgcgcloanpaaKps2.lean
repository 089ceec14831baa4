/- Contracts of the functions on works and mazes: validity. Contracts of the validity of works and mazes. Contracts of the validity of works and mazes. Contracts of asked, isNode, isFilling and of the reference's l9Ask, l9Filling. Contracts of has, steps, keysOf, nexts, largest. What is reached with fixed colours, and at last. No program is named here. Contract of impl.reach. Contracts of slices.Clone of rows of three and of impl.own. -/
import Derived.Test.YtcjcgcgcloanpaaKps0
import Derived.Test.YtcjcgcgcloanpaaKps1
import Derived.Deep.RegionHeld3
import Derived.RegionTactic
import Derived.ChangeAlike
set_option linter.unusedVariables false
set_option linter.unusedSimpArgs false
namespace Go.Proofs.Ytcjcgcgcloanpaa
open Go.RowKit Go.KD
attribute [local go_sem] later_cell later_frozen
set_option maxRecDepth 100000 in
set_option maxHeartbeats 1000000 in
theorem compareDoors_c (a b c x y z : Int) (w : World) : Calls Try.prog 164 #[.agg #[.int .i64 a, .int .i64 b, .int .i64 c], .agg #[.int .i64 x, .int .i64 y, .int .i64 z]] w fun e w' =>
   e = .returned (.int .i64 (cmp3 (a, b, c) (x, y, z))) ∧ Below w.heap.size w w' := by
  go_enter Try.func164, Try.ntmps164
  go_wp2
  refine wp_region_tail 15 (by kernel_rfl) (by kernel_rfl) ?_
  simp only [List.take_succ_cons, List.take_zero, List.drop_succ_cons, List.drop_zero]
  repeat (first | still_step | still_call (compare_c _ _ _))
  refine wpStill_nil ?_
  go_wp2_with fail
  refine (or_c _ _ _ [cmpI a x, cmpI b y, cmpI c z] _ rfl ((ic_lit _ _ _ _ _ (by simp) rfl).later (Below.refl _ _).drew) (by simp)).mono ?_
  rintro e w' ⟨rfl, rfl⟩
  go_wp2_with fail
  go_ret
  exact ⟨ret_int rfl, by (repeat (first | exact Below.refl _ _ | apply Below.drew | apply below_drewN | (refine Below.setCell ?_ (by first | omega | (simp; done) | (simp; omega) | (dsimp only; omega)) _) | (refine Below.alloc ?_ (by first | omega | (simp; done) | (simp; omega) | (dsimp only; omega)) _)))⟩
/-- The first place at which p is so, or -1. -/
theorem indexFunc_c (F : FuncId) (fn : Func) (hf1 : Try.prog.funcs[F]? = some fn) (hf2 : (fn.name == "runtime.NumGoroutine") = false) (hf3 : fn.body.isNone = false) (caps : Array Value) (p : Int → Bool) (a : Option Addr) (cap n : Nat) (l : List Int) (w : World) (hn : n = l.length) (hA : IC w a l) (hl : n ≤ 1048576)
    (hp : ∀ k x, k < l.length → l[k]! = x → ∀ w', Below w.heap.size w w' → Calls Try.prog F (#[.int .i64 x] ++ caps) w' fun e w'' => e = .returned (.bool (p x)) ∧ Below w'.heap.size w' w'') :
    Calls Try.prog 153 #[.slice a n cap, .func (.func F) #[] caps] w fun e w' => e = .returned (.int .i64 (idxP p l)) ∧ Below w.heap.size w w' := by
  have HN := Lib.hid hn
  have HP := Lib.hid hp
  have hcf := run_callFunc hf1 hf2 hf3
  clear hn hp hf1 hf2 hf3
  go_enter Try.func153, Try.ntmps153
  go_wp2
  go_loopw [5, 8] (fun _ i wr => ∃ k : Nat, k ≤ n ∧ i = .int .i64 k ∧ Below w.heap.size w wr ∧ Hid (∀ j, j < k → p l[j]! = false)) (fun _ i _ => n - (intOf i).toNat)
  case atStart => exact ⟨0, Nat.zero_le _, rfl, Below.refl _ _, fun j hj => by omega⟩
  case round =>
    obtain ⟨k, hk, rfl, hb, HK⟩ := hrel
    by_cases hlt : k < n
    · have hlt' : k < l.length := by rw [← HN.out]; exact hlt
      obtain ⟨b, off, x, rfl, HX, hbs, e0⟩ := (hA.later hb).at k hlt'
      cases hpx : p x
      · go_wp2_with fail
        refine (HP.out k x hlt' HX.out _ hb).mono ?_
        rintro e w1 ⟨rfl, hb1⟩
        rw [hpx]
        go_wp2_with fail
        go_roundw
        case rel => exact ⟨k+1, by omega, by go_num, below_then hb hb1, fun j hj => by
          rcases Nat.lt_or_ge j k with h | h
          · exact HK.out j h
          · obtain rfl : j = k := by omega
            rw [HX.out]; exact hpx⟩
        case measure => simp [intOf]; omega
      · go_wp2_with fail
        refine (HP.out k x hlt' HX.out _ hb).mono ?_
        rintro e w1 ⟨rfl, hb1⟩
        rw [hpx]
        go_wp2_with fail
        go_ret
        exact ⟨ret_int (by rw [idxP_at (by omega) HK.out (by rw [HX.out]; exact hpx)]), below_then hb hb1⟩
    · go_wp2
      go_ret
      exact ⟨ret_int (by rw [idxP_none (fun j hj => HK.out j (by have := HN.out; omega))]), hb⟩
theorem containsFunc_c (F : FuncId) (fn : Func) (hf1 : Try.prog.funcs[F]? = some fn) (hf2 : (fn.name == "runtime.NumGoroutine") = false) (hf3 : fn.body.isNone = false) (caps : Array Value) (p : Int → Bool) (a : Option Addr) (cap n : Nat) (l : List Int) (w : World) (hn : n = l.length) (hA : IC w a l) (hl : n ≤ 1048576)
    (hp : ∀ k x, k < l.length → l[k]! = x → ∀ w', Below w.heap.size w w' → Calls Try.prog F (#[.int .i64 x] ++ caps) w' fun e w'' => e = .returned (.bool (p x)) ∧ Below w'.heap.size w' w'') :
    Calls Try.prog 151 #[.slice a n cap, .func (.func F) #[] caps] w fun e w' => e = .returned (.bool (anyP p l)) ∧ Below w.heap.size w w' := by
  have HN := Lib.hid hn
  have HP := Lib.hid hp
  clear hn hp
  go_enter Try.func151, Try.ntmps151
  go_wp2_with (go_at_call 153; refine (indexFunc_c F fn hf1 hf2 hf3 caps p _ _ _ l _ HN.out hA hl HP.out).mono ?_; rintro e w1 ⟨rfl, hb1⟩)
  go_ret
  exact ⟨ret_bool (by symm; exact anyP_idx p l), hb1⟩
end Go.Proofs.Ytcjcgcgcloanpaa

namespace Go.Proofs.Ytcjcgcgcloanpaa
open Go.RowKit Go.KD
attribute [local go_sem] later_cell later_frozen
set_option maxHeartbeats 8000000 in
theorem l2Maze_c (v : Value) (m : Mz) (w : World) (hm : MzAt w v m) : Calls Try.prog 112 #[v] w fun e w' => e = .returned (.bool (mazeB m)) ∧ Below w.heap.size w w' := by
  obtain ⟨⟨ad, cd, ak, ck, rfl, hd, hk⟩, nd, nk⟩ := hm
  obtain ⟨s, gs, ps⟩ := m
  dsimp only at *
  by_cases h1 : 1 ≤ s ∧ s ≤ 12
  · have b1 : inB s 1 12 = true := inB_true.2 h1
    obtain ⟨hs1, hs2⟩ := h1
    by_cases h2 : gs.length ≤ 30
    · have b2 : decide (30 < (gs.length : Int)) = false := by simp; omega
      by_cases h3 : (ps.length : Int) = s
      · have b3 : ((ps.length : Int) != s) = false := by simp [h3]
        have H3 := Lib.hid h3; clear h3
        go_enter Try.func112, Try.ntmps112
        go_wp2_with (go_at_call 166; refine (l1In_c _ _ _ _).mono ?_; rintro e w1 ⟨rfl, rfl⟩)
        go_loopw [3] (fun i wr => ∃ k : Nat, k ≤ gs.length ∧ i = .int .i64 k ∧ Below (w.heap.size + 1) (w.alloc (.cells #[.int .i64 s, .slice ad gs.length cd, .slice ak ps.length ck] 27)) wr ∧ Hid (∀ j, j < k → doorB s gs j = true)) (fun i _ => gs.length - (intOf i).toNat)
        case atStart => exact ⟨0, Nat.zero_le _, rfl, Below.refl _ _, fun j hj => by omega⟩
        case round =>
          obtain ⟨k, hkl, rfl, hb, HK⟩ := hrel
          obtain ⟨hc, hf, hz⟩ := bcell3 hb
          simp only [World.size_alloc] at hz
          have hz1 : w.heap.size < wr.heap.size := by omega
          have HB : Hid (Below w.heap.size w wr) := (by (repeat (first | exact Below.refl _ _ | apply Below.drew | apply below_drewN | (refine Below.setCell ?_ (by first | omega | (simp; done) | (simp; omega) | (dsimp only; omega)) _) | (refine Below.alloc ?_ (by first | omega | (simp; done) | (simp; omega) | (dsimp only; omega)) _))) : Below w.heap.size w (w.alloc _)).trans (hb.mono (by omega))
          by_cases hlt : k < gs.length
          · obtain ⟨b, off, x, y, z, rfl, HX, hbs, e0, e1, e2⟩ := (hd.later HB.out).at k hlt
            have hz2 : w.heap.size < wr.heap.size + 1 := by omega
            have hbs2 : b < wr.heap.size + 1 := by omega
            have HG := Lib.hid (doorB_eq (size := s) HX.out)
            cases p1 : inB x 0 (s - 1)
            case false =>
              go_wp2
              refine wp_region_later (wr.heap.size + 1) (by kernel_rfl) (by kernel_rfl) ?_
              repeat (first | go_big_quiet_skip | (go_big_quiet_want; go_big_quiet_op; (first | go_big_quiet_on | (apply Exists.intro; refine ⟨fun W => ?_, ?_⟩; (first | (go_at_call 166; exact Calls.later_same (l1In_c _ _ _ _)) | (go_at_call 167; exact Calls.later_same (l2Set_c _ _)) | (go_at_call 168; exact Calls.later_of (by simp) (l2Before_c _ _ _ _ _ _ _))); go_big_quiet_on))))
              refine wpQuiet_nil ?_; rintro _ ⟨⟨w9, hb9⟩, rfl⟩; obtain ⟨hc9, hf9, hz9⟩ := bcell3 hb9
              go_wp2
              go_ret
              exact ⟨ret_bool (mazeB_no fun h => by have := h.dr k hlt; rw [HG.out] at this; simp_all).symm, HB.out.trans ((((Below.refl _ _).alloc (Nat.le_refl _) _).trans (hb9.mono (by simp))).mono (by omega))⟩
            case true =>
              obtain ⟨q0a, q0b⟩ := inB_true.1 p1
              cases p2 : inB y (x + 1) (s - 1)
              case false =>
                go_wp2
                refine wp_region_later (wr.heap.size + 1) (by kernel_rfl) (by kernel_rfl) ?_
                repeat (first | go_big_quiet_skip | (go_big_quiet_want; go_big_quiet_op; (first | go_big_quiet_on | (apply Exists.intro; refine ⟨fun W => ?_, ?_⟩; (first | (go_at_call 166; exact Calls.later_same (l1In_c _ _ _ _)) | (go_at_call 167; exact Calls.later_same (l2Set_c _ _)) | (go_at_call 168; exact Calls.later_of (by simp) (l2Before_c _ _ _ _ _ _ _))); go_big_quiet_on))))
                refine wpQuiet_nil ?_; rintro _ ⟨⟨w9, hb9⟩, rfl⟩; obtain ⟨hc9, hf9, hz9⟩ := bcell3 hb9
                go_wp2
                go_ret
                exact ⟨ret_bool (mazeB_no fun h => by have := h.dr k hlt; rw [HG.out] at this; simp_all).symm, HB.out.trans ((((Below.refl _ _).alloc (Nat.le_refl _) _).trans (hb9.mono (by simp))).mono (by omega))⟩
              case true =>
                obtain ⟨q1a, q1b⟩ := inB_true.1 p2
                cases p3 : setB z
                case false =>
                  go_wp2
                  refine wp_region_later (wr.heap.size + 1) (by kernel_rfl) (by kernel_rfl) ?_
                  repeat (first | go_big_quiet_skip | (go_big_quiet_want; go_big_quiet_op; (first | go_big_quiet_on | (apply Exists.intro; refine ⟨fun W => ?_, ?_⟩; (first | (go_at_call 166; exact Calls.later_same (l1In_c _ _ _ _)) | (go_at_call 167; exact Calls.later_same (l2Set_c _ _)) | (go_at_call 168; exact Calls.later_of (by simp) (l2Before_c _ _ _ _ _ _ _))); go_big_quiet_on))))
                  refine wpQuiet_nil ?_; rintro _ ⟨⟨w9, hb9⟩, rfl⟩; obtain ⟨hc9, hf9, hz9⟩ := bcell3 hb9
                  go_wp2
                  go_ret
                  exact ⟨ret_bool (mazeB_no fun h => by have := h.dr k hlt; rw [HG.out] at this; simp_all).symm, HB.out.trans ((((Below.refl _ _).alloc (Nat.le_refl _) _).trans (hb9.mono (by simp))).mono (by omega))⟩
                case true =>
                  rcases Nat.eq_zero_or_pos k with hk0 | hk0
                  · have hki : decide (0 < k) = false := by simp; omega
                    have hki2 : decide ((0 : Int) < (k : Int)) = false := by simp; omega
                    have HK0 := Lib.hid hk0; clear hk0
                    go_wp2
                    refine wp_region_later (wr.heap.size + 1) (by kernel_rfl) (by kernel_rfl) ?_
                    repeat (first | go_big_quiet_skip | (go_big_quiet_want; go_big_quiet_op; (first | go_big_quiet_on | (apply Exists.intro; refine ⟨fun W => ?_, ?_⟩; (first | (go_at_call 166; exact Calls.later_same (l1In_c _ _ _ _)) | (go_at_call 167; exact Calls.later_same (l2Set_c _ _)) | (go_at_call 168; exact Calls.later_of (by simp) (l2Before_c _ _ _ _ _ _ _))); go_big_quiet_on))))
                    refine wpQuiet_nil ?_; rintro _ ⟨⟨w9, hb9⟩, rfl⟩; obtain ⟨hc9, hf9, hz9⟩ := bcell3 hb9
                    go_wp2
                    go_roundw
                    case rel => exact ⟨k+1, by omega, by go_num, (hb.trans ((((Below.refl _ _).alloc (Nat.le_refl _) _).trans (hb9.mono (by simp))).mono (by omega))), fun j hj => by
                      rcases Nat.lt_or_ge j k with h | h
                      · exact HK.out j h
                      · obtain rfl : j = k := by omega
                        rw [HG.out]; have := HK0.out; simp_all⟩
                    case measure => simp [intOf]; omega
                  · obtain ⟨b2, off2, x', y', z', hb2, HY, _, f0, f1, f2⟩ := (hd.later HB.out).at (k - 1) (by omega)
                    obtain ⟨rfl, rfl⟩ : b = b2 ∧ off = off2 := by simpa using hb2
                    clear hb2
                    have hki : (0 : Int) < (k : Int) := by omega
                    have HG2 := Lib.hid (HG.out.trans (by rw [HY.out]))
                    clear HG; have HG := HG2; clear HG2
                    cases p9 : lt3 (x', y', z') (x, y, z)
                    case false =>
                      go_wp2
                      refine wp_region_later (wr.heap.size + 1) (by kernel_rfl) (by kernel_rfl) ?_
                      repeat (first | go_big_quiet_skip | (go_big_quiet_want; go_big_quiet_op; (first | go_big_quiet_on | (apply Exists.intro; refine ⟨fun W => ?_, ?_⟩; (first | (go_at_call 166; exact Calls.later_same (l1In_c _ _ _ _)) | (go_at_call 167; exact Calls.later_same (l2Set_c _ _)) | (go_at_call 168; exact Calls.later_of (by simp) (l2Before_c _ _ _ _ _ _ _))); go_big_quiet_on))))
                      refine wpQuiet_nil ?_; rintro _ ⟨⟨w9, hb9⟩, rfl⟩; obtain ⟨hc9, hf9, hz9⟩ := bcell3 hb9
                      go_wp2
                      go_ret
                      exact ⟨ret_bool (mazeB_no fun h => by have := h.dr k hlt; rw [HG.out] at this; simp_all).symm, HB.out.trans ((((Below.refl _ _).alloc (Nat.le_refl _) _).trans (hb9.mono (by simp))).mono (by omega))⟩
                    case true =>
                      go_wp2
                      refine wp_region_later (wr.heap.size + 1) (by kernel_rfl) (by kernel_rfl) ?_
                      repeat (first | go_big_quiet_skip | (go_big_quiet_want; go_big_quiet_op; (first | go_big_quiet_on | (apply Exists.intro; refine ⟨fun W => ?_, ?_⟩; (first | (go_at_call 166; exact Calls.later_same (l1In_c _ _ _ _)) | (go_at_call 167; exact Calls.later_same (l2Set_c _ _)) | (go_at_call 168; exact Calls.later_of (by simp) (l2Before_c _ _ _ _ _ _ _))); go_big_quiet_on))))
                      refine wpQuiet_nil ?_; rintro _ ⟨⟨w9, hb9⟩, rfl⟩; obtain ⟨hc9, hf9, hz9⟩ := bcell3 hb9
                      go_wp2
                      go_roundw
                      case rel => exact ⟨k+1, by omega, by go_num, (hb.trans ((((Below.refl _ _).alloc (Nat.le_refl _) _).trans (hb9.mono (by simp))).mono (by omega))), fun j hj => by
                        rcases Nat.lt_or_ge j k with h | h
                        · exact HK.out j h
                        · obtain rfl : j = k := by omega
                          rw [HG.out]; simp_all⟩
                      case measure => simp [intOf]; omega
          · obtain rfl : k = gs.length := by omega
            go_wp2
            obtain ⟨wo, hwo⟩ : ∃ wo : World, wo = wr := ⟨_, rfl⟩
            have HWO := Lib.hid hwo; clear hwo
            go_loop [5] (fun i => ∃ j : Nat, j ≤ ps.length ∧ i = .int .i64 j ∧ Hid (∀ t, t < j → setB ps[t]! = true)) (fun i => ps.length - (intOf i).toNat)
            case atStart => exact ⟨0, Nat.zero_le _, rfl, fun j hj => by omega⟩
            case round =>
              obtain ⟨j, hj, rfl, HJ⟩ := hrel
              by_cases hlt2 : j < ps.length
              · have hji : (j : Int) < s := by have := H3.out; omega
                obtain ⟨b, off, x, rfl, HX, hbs, e0⟩ := (hk.later HB.out).at j hlt2
                cases p1 : setB x
                · go_wp2_with (go_at_call 167; refine (l2Set_c _ _).mono ?_; rintro e w1 ⟨rfl, rfl⟩)
                  go_ret
                  exact ⟨ret_bool (mazeB_no fun h => by have := h.ks j hlt2; rw [HX.out] at this; simp_all).symm, HB.out⟩
                · go_wp2_with (go_at_call 167; refine (l2Set_c _ _).mono ?_; rintro e w1 ⟨rfl, rfl⟩)
                  go_round
                  case rel => exact ⟨j+1, by omega, by go_num, fun t ht => by
                    rcases Nat.lt_or_ge t j with h | h
                    · exact HJ.out t h
                    · obtain rfl : t = j := by omega
                      rw [HX.out]; exact p1⟩
                  case measure => simp [intOf]; omega
              · have hji : ¬ (j : Int) < s := by have := H3.out; omega
                go_wp2
                go_ret
                exact ⟨ret_bool (mazeB_true.2 ⟨hs1, hs2, h2, H3.out, HK.out, fun t ht => HJ.out t (by have : t < ps.length := ht; omega)⟩).symm, HB.out⟩
      · have b3 : ((ps.length : Int) != s) = true := by simpa using h3
        go_enter Try.func112, Try.ntmps112
        go_wp2_with ((go_at_call 166; refine (l1In_c _ _ _ _).mono ?_; rintro e w1 ⟨rfl, rfl⟩))
        go_ret
        exact ⟨ret_bool (mazeB_no fun h => h3 h.nk).symm, by (repeat (first | exact Below.refl _ _ | apply Below.drew | apply below_drewN | (refine Below.setCell ?_ (by first | omega | (simp; done) | (simp; omega) | (dsimp only; omega)) _) | (refine Below.alloc ?_ (by first | omega | (simp; done) | (simp; omega) | (dsimp only; omega)) _)))⟩
    · have b2 : decide (30 < (gs.length : Int)) = true := by simp; omega
      go_enter Try.func112, Try.ntmps112
      go_wp2_with ((go_at_call 166; refine (l1In_c _ _ _ _).mono ?_; rintro e w1 ⟨rfl, rfl⟩))
      go_ret
      exact ⟨ret_bool (mazeB_no fun h => h2 h.nd).symm, by (repeat (first | exact Below.refl _ _ | apply Below.drew | apply below_drewN | (refine Below.setCell ?_ (by first | omega | (simp; done) | (simp; omega) | (dsimp only; omega)) _) | (refine Below.alloc ?_ (by first | omega | (simp; done) | (simp; omega) | (dsimp only; omega)) _)))⟩
  · have b1 : inB s 1 12 = false := inB_false.2 h1
    go_enter Try.func112, Try.ntmps112
    go_wp2_with ((go_at_call 166; refine (l1In_c _ _ _ _).mono ?_; rintro e w1 ⟨rfl, rfl⟩))
    go_ret
    exact ⟨ret_bool (mazeB_no fun h => h1 ⟨h.s1, h.s2⟩).symm, by (repeat (first | exact Below.refl _ _ | apply Below.drew | apply below_drewN | (refine Below.setCell ?_ (by first | omega | (simp; done) | (simp; omega) | (dsimp only; omega)) _) | (refine Below.alloc ?_ (by first | omega | (simp; done) | (simp; omega) | (dsimp only; omega)) _)))⟩
end Go.Proofs.Ytcjcgcgcloanpaa

namespace Go.Proofs.Ytcjcgcgcloanpaa
open Go.RowKit Go.KD
attribute [local go_sem] later_cell later_frozen
theorem isMazeK_c (x : Int) (w : World) : Calls Try.prog 165 #[.int .i64 x] w fun e w' => e = .returned (.bool (!setB x)) ∧ Below w.heap.size w w' := by
  go_enter Try.func165, Try.ntmps165
  go_wp2_with (go_at_call 122; refine (isSet_c _ _).mono ?_; rintro e w1 ⟨rfl, rfl⟩)
  go_ret
  exact ⟨ret_bool rfl, Below.refl _ _⟩
theorem keys_last {s : Int} {gs : List D3} {ps : List Int} (h1 : 1 ≤ s) (h2 : s ≤ 12) (h3 : gs.length ≤ 30) (h4 : (ps.length : Int) = s) (h5 : ∀ j, j < gs.length → doorB s gs j = true) : (!anyP (fun x => !setB x) ps) = mazeB ⟨s, gs, ps⟩ := by
  rw [Bool.eq_iff_iff, mazeB_true]
  constructor
  · intro h
    refine ⟨h1, h2, h3, h4, h5, fun t ht => ?_⟩
    simp only [anyP, Bool.not_eq_true', List.any_eq_false] at h
    have := h ps[t] (List.getElem_mem ht)
    rw [getElem!_pos _ t ht]; simpa using this
  · intro h
    simp only [anyP, Bool.not_eq_true', List.any_eq_false]
    intro x hx
    obtain ⟨j, hj, rfl⟩ := List.mem_iff_getElem.1 hx
    have := h.ks j hj
    rw [getElem!_pos _ j hj] at this
    simpa using this
set_option maxHeartbeats 8000000 in
theorem isMaze_c (v : Value) (m : Mz) (w : World) (hm : MzAt w v m) : Calls Try.prog 110 #[v] w fun e w' => e = .returned (.bool (mazeB m)) ∧ Below w.heap.size w w' := by
  obtain ⟨⟨ad, cd, ak, ck, rfl, hd, hk⟩, nd, nk⟩ := hm
  obtain ⟨s, gs, ps⟩ := m
  dsimp only at *
  by_cases h1 : 1 ≤ s ∧ s ≤ 12
  · have b1 : inB s 1 12 = true := inB_true.2 h1
    obtain ⟨hs1, hs2⟩ := h1
    by_cases h2 : gs.length ≤ 30
    · have b2 : decide (30 < (gs.length : Int)) = false := by simp; omega
      by_cases h3 : (ps.length : Int) = s
      · have b3 : ((ps.length : Int) != s) = false := by simp [h3]
        have H3 := Lib.hid h3; clear h3
        go_enter Try.func110, Try.ntmps110
        go_wp2_with (go_at_call 163; refine (within_c _ _ _ _).mono ?_; rintro e w1 ⟨rfl, rfl⟩)
        go_loopw [3, 26] (fun _ i wr => ∃ k : Nat, k ≤ gs.length ∧ i = .int .i64 k ∧ Below (w.heap.size + 1) (w.alloc (.cells #[.int .i64 s, .slice ad gs.length cd, .slice ak ps.length ck] 27)) wr ∧ Hid (∀ j, j < k → doorB s gs j = true)) (fun _ i _ => gs.length - (intOf i).toNat)
        case atStart => exact ⟨0, Nat.zero_le _, rfl, Below.refl _ _, fun j hj => by omega⟩
        case round =>
          obtain ⟨k, hkl, rfl, hb, HK⟩ := hrel
          obtain ⟨hc, hf, hz⟩ := bcell3 hb
          simp only [World.size_alloc] at hz
          have hz1 : w.heap.size < wr.heap.size := by omega
          have HB : Hid (Below w.heap.size w wr) := (by (repeat (first | exact Below.refl _ _ | apply Below.drew | apply below_drewN | (refine Below.setCell ?_ (by first | omega | (simp; done) | (simp; omega) | (dsimp only; omega)) _) | (refine Below.alloc ?_ (by first | omega | (simp; done) | (simp; omega) | (dsimp only; omega)) _))) : Below w.heap.size w (w.alloc _)).trans (hb.mono (by omega))
          by_cases hlt : k < gs.length
          · obtain ⟨b, off, x, y, z, rfl, HX, hbs, e0, e1, e2⟩ := (hd.later HB.out).at k hlt
            have hz2 : w.heap.size < wr.heap.size + 1 := by omega
            have hbs2 : b < wr.heap.size + 1 := by omega
            have HG := Lib.hid (doorB_impl (size := s) HX.out)
            cases p1 : decide (x < 0)
            case true =>
              go_wp2
              refine wp_region_later (wr.heap.size + 1) (by kernel_rfl) (by kernel_rfl) ?_
              repeat (first | go_big_quiet_skip | (go_big_quiet_want; go_big_quiet_op; (first | go_big_quiet_on | (apply Exists.intro; refine ⟨fun W => ?_, ?_⟩; (first | (go_at_call 163; exact Calls.later_same (within_c _ _ _ _)) | (go_at_call 122; exact Calls.later_same (isSet_c _ _)) | (go_at_call 164; exact Calls.later_of (by simp) (compareDoors_c _ _ _ _ _ _ _))); go_big_quiet_on))))
              refine wpQuiet_nil ?_; rintro _ ⟨⟨w9, hb9⟩, rfl⟩; obtain ⟨hc9, hf9, hz9⟩ := bcell3 hb9
              go_wp2
              go_ret
              exact ⟨ret_bool (mazeB_no fun h => by have := h.dr k hlt; rw [HG.out] at this; simp_all).symm, HB.out.trans ((((Below.refl _ _).alloc (Nat.le_refl _) _).trans (hb9.mono (by simp))).mono (by omega))⟩
            case false =>
              cases p2 : decide (y ≤ x)
              case true =>
                go_wp2
                refine wp_region_later (wr.heap.size + 1) (by kernel_rfl) (by kernel_rfl) ?_
                repeat (first | go_big_quiet_skip | (go_big_quiet_want; go_big_quiet_op; (first | go_big_quiet_on | (apply Exists.intro; refine ⟨fun W => ?_, ?_⟩; (first | (go_at_call 163; exact Calls.later_same (within_c _ _ _ _)) | (go_at_call 122; exact Calls.later_same (isSet_c _ _)) | (go_at_call 164; exact Calls.later_of (by simp) (compareDoors_c _ _ _ _ _ _ _))); go_big_quiet_on))))
                refine wpQuiet_nil ?_; rintro _ ⟨⟨w9, hb9⟩, rfl⟩; obtain ⟨hc9, hf9, hz9⟩ := bcell3 hb9
                go_wp2
                go_ret
                exact ⟨ret_bool (mazeB_no fun h => by have := h.dr k hlt; rw [HG.out] at this; simp_all).symm, HB.out.trans ((((Below.refl _ _).alloc (Nat.le_refl _) _).trans (hb9.mono (by simp))).mono (by omega))⟩
              case false =>
                cases p3 : decide (s ≤ y)
                case true =>
                  go_wp2
                  refine wp_region_later (wr.heap.size + 1) (by kernel_rfl) (by kernel_rfl) ?_
                  repeat (first | go_big_quiet_skip | (go_big_quiet_want; go_big_quiet_op; (first | go_big_quiet_on | (apply Exists.intro; refine ⟨fun W => ?_, ?_⟩; (first | (go_at_call 163; exact Calls.later_same (within_c _ _ _ _)) | (go_at_call 122; exact Calls.later_same (isSet_c _ _)) | (go_at_call 164; exact Calls.later_of (by simp) (compareDoors_c _ _ _ _ _ _ _))); go_big_quiet_on))))
                  refine wpQuiet_nil ?_; rintro _ ⟨⟨w9, hb9⟩, rfl⟩; obtain ⟨hc9, hf9, hz9⟩ := bcell3 hb9
                  go_wp2
                  go_ret
                  exact ⟨ret_bool (mazeB_no fun h => by have := h.dr k hlt; rw [HG.out] at this; simp_all).symm, HB.out.trans ((((Below.refl _ _).alloc (Nat.le_refl _) _).trans (hb9.mono (by simp))).mono (by omega))⟩
                case false =>
                  cases p4 : setB z
                  case false =>
                    go_wp2
                    refine wp_region_later (wr.heap.size + 1) (by kernel_rfl) (by kernel_rfl) ?_
                    repeat (first | go_big_quiet_skip | (go_big_quiet_want; go_big_quiet_op; (first | go_big_quiet_on | (apply Exists.intro; refine ⟨fun W => ?_, ?_⟩; (first | (go_at_call 163; exact Calls.later_same (within_c _ _ _ _)) | (go_at_call 122; exact Calls.later_same (isSet_c _ _)) | (go_at_call 164; exact Calls.later_of (by simp) (compareDoors_c _ _ _ _ _ _ _))); go_big_quiet_on))))
                    refine wpQuiet_nil ?_; rintro _ ⟨⟨w9, hb9⟩, rfl⟩; obtain ⟨hc9, hf9, hz9⟩ := bcell3 hb9
                    go_wp2
                    go_ret
                    exact ⟨ret_bool (mazeB_no fun h => by have := h.dr k hlt; rw [HG.out] at this; simp_all).symm, HB.out.trans ((((Below.refl _ _).alloc (Nat.le_refl _) _).trans (hb9.mono (by simp))).mono (by omega))⟩
                  case true =>
                    rcases Nat.eq_zero_or_pos k with hk0 | hk0
                    · have hki : decide (0 < k) = false := by simp; omega
                      have hki2 : decide ((0 : Int) < (k : Int)) = false := by simp; omega
                      have HK0 := Lib.hid hk0; clear hk0
                      go_wp2
                      refine wp_region_later (wr.heap.size + 1) (by kernel_rfl) (by kernel_rfl) ?_
                      repeat (first | go_big_quiet_skip | (go_big_quiet_want; go_big_quiet_op; (first | go_big_quiet_on | (apply Exists.intro; refine ⟨fun W => ?_, ?_⟩; (first | (go_at_call 163; exact Calls.later_same (within_c _ _ _ _)) | (go_at_call 122; exact Calls.later_same (isSet_c _ _)) | (go_at_call 164; exact Calls.later_of (by simp) (compareDoors_c _ _ _ _ _ _ _))); go_big_quiet_on))))
                      refine wpQuiet_nil ?_; rintro _ ⟨⟨w9, hb9⟩, rfl⟩; obtain ⟨hc9, hf9, hz9⟩ := bcell3 hb9
                      go_wp2
                      go_roundw
                      case rel => exact ⟨k+1, by omega, by go_num, (hb.trans ((((Below.refl _ _).alloc (Nat.le_refl _) _).trans (hb9.mono (by simp))).mono (by omega))), fun j hj => by
                        rcases Nat.lt_or_ge j k with h | h
                        · exact HK.out j h
                        · obtain rfl : j = k := by omega
                          rw [HG.out]; have := HK0.out; simp_all⟩
                      case measure => simp [intOf]; omega
                    · obtain ⟨b2, off2, x', y', z', hb2, HY, _, f0, f1, f2⟩ := (hd.later HB.out).at (k - 1) (by omega)
                      obtain ⟨rfl, rfl⟩ : b = b2 ∧ off = off2 := by simpa using hb2
                      clear hb2
                      have hki : (0 : Int) < (k : Int) := by omega
                      have HG2 := Lib.hid (HG.out.trans (by rw [HY.out]))
                      clear HG; have HG := HG2; clear HG2
                      cases p9 : decide (0 ≤ cmp3 (x', y', z') (x, y, z))
                      case true =>
                        go_wp2
                        refine wp_region_later (wr.heap.size + 1) (by kernel_rfl) (by kernel_rfl) ?_
                        repeat (first | go_big_quiet_skip | (go_big_quiet_want; go_big_quiet_op; (first | go_big_quiet_on | (apply Exists.intro; refine ⟨fun W => ?_, ?_⟩; (first | (go_at_call 163; exact Calls.later_same (within_c _ _ _ _)) | (go_at_call 122; exact Calls.later_same (isSet_c _ _)) | (go_at_call 164; exact Calls.later_of (by simp) (compareDoors_c _ _ _ _ _ _ _))); go_big_quiet_on))))
                        refine wpQuiet_nil ?_; rintro _ ⟨⟨w9, hb9⟩, rfl⟩; obtain ⟨hc9, hf9, hz9⟩ := bcell3 hb9
                        go_wp2
                        go_ret
                        exact ⟨ret_bool (mazeB_no fun h => by have := h.dr k hlt; rw [HG.out] at this; simp_all).symm, HB.out.trans ((((Below.refl _ _).alloc (Nat.le_refl _) _).trans (hb9.mono (by simp))).mono (by omega))⟩
                      case false =>
                        go_wp2
                        refine wp_region_later (wr.heap.size + 1) (by kernel_rfl) (by kernel_rfl) ?_
                        repeat (first | go_big_quiet_skip | (go_big_quiet_want; go_big_quiet_op; (first | go_big_quiet_on | (apply Exists.intro; refine ⟨fun W => ?_, ?_⟩; (first | (go_at_call 163; exact Calls.later_same (within_c _ _ _ _)) | (go_at_call 122; exact Calls.later_same (isSet_c _ _)) | (go_at_call 164; exact Calls.later_of (by simp) (compareDoors_c _ _ _ _ _ _ _))); go_big_quiet_on))))
                        refine wpQuiet_nil ?_; rintro _ ⟨⟨w9, hb9⟩, rfl⟩; obtain ⟨hc9, hf9, hz9⟩ := bcell3 hb9
                        go_wp2
                        go_roundw
                        case rel => exact ⟨k+1, by omega, by go_num, (hb.trans ((((Below.refl _ _).alloc (Nat.le_refl _) _).trans (hb9.mono (by simp))).mono (by omega))), fun j hj => by
                          rcases Nat.lt_or_ge j k with h | h
                          · exact HK.out j h
                          · obtain rfl : j = k := by omega
                            rw [HG.out]; simp_all⟩
                        case measure => simp [intOf]; omega
          · obtain rfl : k = gs.length := by omega
            go_wp2_with (go_at_call 151; refine (containsFunc_c 165 Try.f165 Try.func165 (by kernel_rfl) (by kernel_rfl) #[] (fun x => !setB x) _ _ _ ps _ rfl (hk.later HB.out) (by omega) (fun j x _ _ w2 _ => isMazeK_c x w2)).mono ?_; rintro e w2 ⟨rfl, hb2⟩)
            go_ret
            exact ⟨ret_bool (keys_last hs1 hs2 h2 H3.out HK.out), below_then HB.out hb2⟩
      · have b3 : ((ps.length : Int) != s) = true := by simpa using h3
        go_enter Try.func110, Try.ntmps110
        go_wp2_with ((go_at_call 163; refine (within_c _ _ _ _).mono ?_; rintro e w1 ⟨rfl, rfl⟩))
        go_ret
        exact ⟨ret_bool (mazeB_no fun h => h3 h.nk).symm, by (repeat (first | exact Below.refl _ _ | apply Below.drew | apply below_drewN | (refine Below.setCell ?_ (by first | omega | (simp; done) | (simp; omega) | (dsimp only; omega)) _) | (refine Below.alloc ?_ (by first | omega | (simp; done) | (simp; omega) | (dsimp only; omega)) _)))⟩
    · have b2 : decide (30 < (gs.length : Int)) = true := by simp; omega
      go_enter Try.func110, Try.ntmps110
      go_wp2_with ((go_at_call 163; refine (within_c _ _ _ _).mono ?_; rintro e w1 ⟨rfl, rfl⟩))
      go_ret
      exact ⟨ret_bool (mazeB_no fun h => h2 h.nd).symm, by (repeat (first | exact Below.refl _ _ | apply Below.drew | apply below_drewN | (refine Below.setCell ?_ (by first | omega | (simp; done) | (simp; omega) | (dsimp only; omega)) _) | (refine Below.alloc ?_ (by first | omega | (simp; done) | (simp; omega) | (dsimp only; omega)) _)))⟩
  · have b1 : inB s 1 12 = false := inB_false.2 h1
    go_enter Try.func110, Try.ntmps110
    go_wp2_with ((go_at_call 163; refine (within_c _ _ _ _).mono ?_; rintro e w1 ⟨rfl, rfl⟩))
    go_ret
    exact ⟨ret_bool (mazeB_no fun h => h1 ⟨h.s1, h.s2⟩).symm, by (repeat (first | exact Below.refl _ _ | apply Below.drew | apply below_drewN | (refine Below.setCell ?_ (by first | omega | (simp; done) | (simp; omega) | (dsimp only; omega)) _) | (refine Below.alloc ?_ (by first | omega | (simp; done) | (simp; omega) | (dsimp only; omega)) _)))⟩
end Go.Proofs.Ytcjcgcgcloanpaa

namespace Go.KD
def nodesB (m : Mz) (l : List Int) : Bool := !anyP (fun x => !inB x 0 (m.size - 1)) l
def fillB (m : Mz) (set : Int) (f : List Int) : Bool := decide ((f.length : Int) = popc set.toNat) && nodesB m f
noncomputable def askB (m : Mz) (set : Int) : Bool := mazeB m && setB set
noncomputable def pIsFilling (m : Mz) (set : Int) (f : List Int) : Bool × Bool := if askB m set then (fillB m set f, true) else (false, false)
theorem mem_len : ∀ x, x < 64 → (mem x).length = popN x := by decide +kernel
theorem nodesB_no {m : Mz} {l : List Int} {k : Nat} (hk : k < l.length) (h : inB l[k]! 0 (m.size - 1) = false) : nodesB m l = false := by
  unfold nodesB anyP
  simp only [Bool.not_eq_false', List.any_eq_true]
  exact ⟨l[k], List.getElem_mem hk, by rw [getElem!_pos l k hk] at h; simp [h]⟩
theorem nodesB_yes {m : Mz} {l : List Int} (h : ∀ k, k < l.length → inB l[k]! 0 (m.size - 1) = true) : nodesB m l = true := by
  unfold nodesB anyP
  simp only [Bool.not_eq_true', List.any_eq_false]
  intro x hx
  obtain ⟨j, hj, rfl⟩ := List.mem_iff_getElem.1 hx
  have := h j hj
  rw [getElem!_pos l j hj] at this
  simp [this]
end Go.KD
namespace Go.Proofs.Ytcjcgcgcloanpaa
open Go.RowKit Go.KD
attribute [local go_sem] later_cell later_frozen
theorem asked_c (v : Value) (m : Mz) (x : Int) (w : World) (hm : MzAt w v m) : Calls Try.prog 94 #[v, .int .i64 x] w fun e w' => e = .returned (.bool (askB m x)) ∧ Below w.heap.size w w' := by
  have hM := hm
  obtain ⟨⟨ad, cd, ak, ck, rfl, hd, hk'⟩, nd, nk⟩ := hM
  cases b1 : mazeB m
  · have H : Hid (false = askB m x) := by show _ = _; simp [askB, b1]
    go_enter Try.func94, Try.ntmps94
    go_wp2_with (go_at_call 110; refine (isMaze_c _ m _ (hm.later (by (repeat (first | exact Below.refl _ _ | apply Below.drew | apply below_drewN | (refine Below.setCell ?_ (by first | omega | (simp; done) | (simp; omega) | (dsimp only; omega)) _) | (refine Below.alloc ?_ (by first | omega | (simp; done) | (simp; omega) | (dsimp only; omega)) _)))))).mono ?_; rintro e w1 ⟨rfl, hb1⟩)
    go_ret
    exact ⟨ret_bool H.out, below_then (by (repeat (first | exact Below.refl _ _ | apply Below.drew | apply below_drewN | (refine Below.setCell ?_ (by first | omega | (simp; done) | (simp; omega) | (dsimp only; omega)) _) | (refine Below.alloc ?_ (by first | omega | (simp; done) | (simp; omega) | (dsimp only; omega)) _)))) hb1⟩
  · have H : Hid (setB x = askB m x) := by show _ = _; simp [askB, b1]
    go_enter Try.func94, Try.ntmps94
    go_wp2_with (first | (go_at_call 110; refine (isMaze_c _ m _ (hm.later (by (repeat (first | exact Below.refl _ _ | apply Below.drew | apply below_drewN | (refine Below.setCell ?_ (by first | omega | (simp; done) | (simp; omega) | (dsimp only; omega)) _) | (refine Below.alloc ?_ (by first | omega | (simp; done) | (simp; omega) | (dsimp only; omega)) _)))))).mono ?_; rintro e w1 ⟨rfl, hb1⟩) | (go_at_call 122; refine (isSet_c _ _).mono ?_; rintro e w2 ⟨rfl, rfl⟩))
    go_ret
    exact ⟨ret_bool H.out, below_then (by (repeat (first | exact Below.refl _ _ | apply Below.drew | apply below_drewN | (refine Below.setCell ?_ (by first | omega | (simp; done) | (simp; omega) | (dsimp only; omega)) _) | (refine Below.alloc ?_ (by first | omega | (simp; done) | (simp; omega) | (dsimp only; omega)) _)))) hb1⟩
theorem isNodeK_c (x s : Int) (g : Nat) (w : World) (hs : 0 ≤ s) (hs2 : s ≤ 12) (hc : w.cell? ⟨g, 0, none⟩ = some (.int .i64 s)) : Calls Try.prog 176 #[.int .i64 x, .pointer (some ⟨g, 0, none⟩)] w fun e w' => e = .returned (.bool (!inB x 0 (s - 1))) ∧ Below w.heap.size w w' := by
  go_enter Try.func176, Try.ntmps176
  go_wp2_with (go_at_call 163; refine (within_c _ _ _ _).mono ?_; rintro e w1 ⟨rfl, rfl⟩)
  go_ret
  exact ⟨ret_bool rfl, Below.refl _ _⟩
theorem isNode_c (v : Value) (m : Mz) (a : Option Addr) (cap n : Nat) (l : List Int) (w : World) (hm : MzAt w v m) (hn : n = l.length) (hA : IC w a l) (hl : n ≤ 1048576) : Calls Try.prog 121 #[v, .slice a n cap] w fun e w' => e = .returned (.bool (mazeB m && nodesB m l)) ∧ Below w.heap.size w w' := by
  have hM := hm
  obtain ⟨⟨ad, cd, ak, ck, rfl, hd, hk'⟩, nd, nk⟩ := hM
  have HN := Lib.hid hn; clear hn
  cases b1 : mazeB m
  · go_enter Try.func121, Try.ntmps121
    go_wp2_with (go_at_call 110; refine (isMaze_c _ m _ (hm.later (by (repeat (first | exact Below.refl _ _ | apply Below.drew | apply below_drewN | (refine Below.setCell ?_ (by first | omega | (simp; done) | (simp; omega) | (dsimp only; omega)) _) | (refine Below.alloc ?_ (by first | omega | (simp; done) | (simp; omega) | (dsimp only; omega)) _)))))).mono ?_; rintro e w1 ⟨rfl, hb1⟩)
    go_ret
    exact ⟨ret_bool (by simp), below_then (by (repeat (first | exact Below.refl _ _ | apply Below.drew | apply below_drewN | (refine Below.setCell ?_ (by first | omega | (simp; done) | (simp; omega) | (dsimp only; omega)) _) | (refine Below.alloc ?_ (by first | omega | (simp; done) | (simp; omega) | (dsimp only; omega)) _)))) hb1⟩
  · have ok := mazeB_true.1 b1
    have s1 := ok.s1; have s2 := ok.s2
    clear ok
    go_enter Try.func121, Try.ntmps121
    go_wp2_with fail
    refine (isMaze_c _ m _ (hm.later (by (repeat (first | exact Below.refl _ _ | apply Below.drew | apply below_drewN | (refine Below.setCell ?_ (by first | omega | (simp; done) | (simp; omega) | (dsimp only; omega)) _) | (refine Below.alloc ?_ (by first | omega | (simp; done) | (simp; omega) | (dsimp only; omega)) _)))))).mono ?_
    rintro e w1 ⟨rfl, hb1⟩
    have HB1 : Hid (Below w.heap.size w w1) := below_then (by (repeat (first | exact Below.refl _ _ | apply Below.drew | apply below_drewN | (refine Below.setCell ?_ (by first | omega | (simp; done) | (simp; omega) | (dsimp only; omega)) _) | (refine Below.alloc ?_ (by first | omega | (simp; done) | (simp; omega) | (dsimp only; omega)) _)))) hb1
    have hz1 := hb1.size
    simp only [World.size_alloc] at hz1
    have q0 : w1.cell? ⟨w.heap.size, 0, none⟩ = some (.int .i64 m.size) := by rw [hb1.cell (p := ⟨w.heap.size, 0, none⟩) (by simp)]; simp [go_sem]
    rw [b1]
    clear hb1
    go_wp2_with fail
    refine (containsFunc_c 176 Try.f176 Try.func176 (by kernel_rfl) (by kernel_rfl) #[.pointer (some ⟨w.heap.size, 0, none⟩)] (fun x => !inB x 0 (m.size - 1)) _ _ _ l _ HN.out (hA.later HB1.out) hl (fun j x _ _ w2 hb2 => isNodeK_c x m.size w.heap.size w2 (by omega) s2 ((hb2.cell (p := ⟨w.heap.size, 0, none⟩) (by show w.heap.size < _; omega)).trans q0))).mono ?_
    rintro e w2 ⟨rfl, hb2⟩
    go_wp2_with fail
    go_ret
    exact ⟨ret_bool (by simp [nodesB]), below_then HB1.out hb2⟩

end Go.Proofs.Ytcjcgcgcloanpaa
namespace Go.KD
open Go.RowKit
theorem box3 {w wX : World} {T : TypeId} {a b c : Value} {B : Nat} (h : Below B (w.alloc (.cells #[a, b, c] T)) wX) (hB : w.heap.size < B) : wX.cell? ⟨w.heap.size, 0, none⟩ = some a ∧ wX.cell? ⟨w.heap.size, 1, none⟩ = some b ∧ wX.cell? ⟨w.heap.size, 2, none⟩ = some c ∧ w.heap.size < wX.heap.size := by
  refine ⟨?_, ?_, ?_, ?_⟩
  · rw [h.cell (p := ⟨w.heap.size, 0, none⟩) hB]; simp [go_sem]
  · rw [h.cell (p := ⟨w.heap.size, 1, none⟩) hB]; simp [go_sem]
  · rw [h.cell (p := ⟨w.heap.size, 2, none⟩) hB]; simp [go_sem]
  · have := h.size; simp only [World.size_alloc] at this; omega
theorem below_box {w wX : World} {o : Obj} {B : Nat} (h : Below B (w.alloc o) wX) (hB : w.heap.size ≤ B) : Below w.heap.size w wX := ((Below.refl _ _).alloc (Nat.le_refl _) o).trans (h.mono hB)
theorem itL_in {m : Mz} {code : Nat} : ∀ k i, (itL m code k).testBit i = true → code.testBit i = true
  | 0, i, h => by
    have h : (code &&& 1).testBit i = true := h
    rw [Nat.testBit_and, Bool.and_eq_true] at h; exact h.1
  | k + 1, i, h => by
    have h : (itL m code k ||| (nexN m (itL m code k) &&& code)).testBit i = true := h
    rw [Nat.testBit_or, Nat.testBit_and, Bool.or_eq_true, Bool.and_eq_true] at h
    rcases h with h | h
    · exact itL_in k i h
    · exact h.2
def InM (m : Mz) (n : Nat) : Prop := ∀ i, n.testBit i = true → (i : Int) < m.size
theorem InM.lt {m : Mz} {n : Nat} (h : InM m n) (ok : MzOk m) : n < 4096 := lt_of_bits (n := 12) fun i hi => by have := h i hi; have := ok.s2; omega
theorem mem_at {n k : Nat} {x : Int} (hk : k < (mem n).length) (h : (mem n)[k]! = x) : ∃ i : Nat, x = i ∧ n.testBit i = true := by
  have : x ∈ mem n := by rw [← h, getElem!_pos _ k hk]; exact List.getElem_mem hk
  obtain ⟨i, _, h2, h3⟩ := (in_mem n x).1 this
  exact ⟨i, h3, h2⟩
end Go.KD
namespace Go.Proofs.Ytcjcgcgcloanpaa
open Go.RowKit Go.KD
attribute [local go_sem] later_cell later_frozen
theorem has_c (s o : Nat) (ho : o < 4096) (w : World) : Calls Try.prog 148 #[.int .i64 s, .int .i64 o] w fun e w' => e = .returned (.bool (subB o s)) ∧ w = w' := by
  have ha : bits .andNot .i64 (o : Int) (s : Int) = ((andn o s : Nat) : Int) := i64_andNot o s (by omega)
  obtain ⟨y, hy⟩ : ∃ y, y = andn o s := ⟨_, rfl⟩
  rw [← hy] at ha
  have HY := Lib.hid hy; clear hy
  go_enter Try.func148, Try.ntmps148
  go_wp2
  go_ret
  exact ⟨ret_bool (by unfold subB; rw [← HY.out, Bool.eq_iff_iff]; simp), rfl⟩
set_option maxHeartbeats 4000000 in
theorem steps_c (v : Value) (m : Mz) (x : Int) (l : Nat) (w : World) (hm : MzAt w v m) (ok : MzOk m) :
    Calls Try.prog 124 #[v, .int .i64 x, .int .i64 l] w fun e w' => e = .returned (.int .i64 (stN m x l)) ∧ Below w.heap.size w w' := by
  have hM := hm
  obtain ⟨⟨ad, cd, ak, ck, rfl, hd, hk'⟩, nd, nk⟩ := hM
  have hng := ok.nd
  have NL := Lib.hid (stK_lt ok x l)
  obtain ⟨s, gs, ps⟩ := m
  dsimp only at *
  have OK := Lib.hid ok; clear ok
  have hs2 : s ≤ 12 := OK.out.s2
  go_enter Try.func124, Try.ntmps124
  go_wp2
  go_loopw [7, 13] (fun n i wr => ∃ k : Nat, k ≤ gs.length ∧ i = .int .i64 k ∧ n = .int .i64 (stK gs x l k) ∧ Below (w.heap.size + 1) (w.alloc (.cells #[.int .i64 s, .slice ad gs.length cd, .slice ak ps.length ck] 27)) wr) (fun _ i _ => gs.length - (intOf i).toNat)
  case atStart => exact ⟨0, Nat.zero_le _, rfl, rfl, Below.refl _ _⟩
  case round =>
    obtain ⟨wo, rfl⟩ : ∃ wo : World, wo = wr := ⟨_, rfl⟩
    obtain ⟨k, hkl, rfl, rfl, hb⟩ := hrel
    obtain ⟨hc, hf, hz⟩ := bcell3 hb
    simp only [World.size_alloc] at hz
    have hz1 : w.heap.size < wo.heap.size := by omega
    have HB : Hid (Below w.heap.size w wo) := below_box hb (by omega)
    have hn := NL.out k hkl
    have HBo := Lib.hid hb
    by_cases hlt : k < gs.length
    · obtain ⟨b, off, x0, y0, z0, rfl, HX, hbs, e0, e1, e2⟩ := (hd.later HB.out).at k hlt
      obtain ⟨f1, f2, f3, f4, f5⟩ := door_facts OK.out hlt HX.out
      dsimp only at f3
      obtain ⟨xn, rfl⟩ := Int.eq_ofNat_of_zero_le f1
      obtain ⟨yn, rfl⟩ := Int.eq_ofNat_of_zero_le (show 0 ≤ y0 by omega)
      obtain ⟨zn, rfl⟩ := Int.eq_ofNat_of_zero_le f4
      obtain ⟨p, HP, ep, hp⟩ := shl_at xn (by omega)
      obtain ⟨q, HQ, eq, hq⟩ := shl_at yn (by omega)
      have hx0 : (xn : Int) < 12 := by omega
      have hy0 : (yn : Int) < 12 := by omega
      obtain ⟨sN, hsN⟩ : ∃ sN, sN = stK gs x l k := ⟨_, rfl⟩
      rw [← hsN] at hn ⊢
      have HN : Hid (stK gs x l (k + 1) = joinD x l sN ((xn : Int), (yn : Int), (zn : Int))) := by show _ = _; rw [st_step hlt, HX.out, hsN]
      clear hsN
      obtain ⟨s1, hs1⟩ : ∃ s1, s1 = sN ||| q := ⟨_, rfl⟩
      have hs1l : s1 < 4096 := by rw [hs1]; exact Nat.or_lt_two_pow (n := 12) hn hq
      have ea : bits .or .i64 (sN : Int) (q : Int) = (s1 : Int) := by rw [hs1]; exact i64_or sN q (by omega) (by omega)
      have eb : bits .or .i64 (sN : Int) (p : Int) = ((sN ||| p : Nat) : Int) := i64_or sN p (by omega) (by omega)
      have ec : bits .or .i64 (s1 : Int) (p : Int) = ((s1 ||| p : Nat) : Int) := i64_or s1 p (by omega) (by omega)
      have HS1 := Lib.hid hs1; clear hs1
      cases po : subB zn l
      · have HF : Hid (stK gs x l (k + 1) = sN) := by show _ = _; rw [HN.out]; simp [joinD, po]
        go_wp2_with (go_at_call 148; refine (has_c _ _ (by omega) _).mono ?_; rintro e w2 ⟨rfl, rfl⟩; rw [po])
        go_roundw
        case rel => exact ⟨k + 1, by omega, by go_num, by rw [HF.out], HBo.out.alloc (by omega) _⟩
        case measure => simp [intOf]; omega
      · cases p1 : ((xn : Int) == x) <;> cases p2 : ((yn : Int) == x)
        all_goals
          have HF := HN
          go_wp2_with (go_at_call 148; refine (has_c _ _ (by omega) _).mono ?_; rintro e w2 ⟨rfl, rfl⟩; rw [po])
          go_roundw
          case rel =>
            refine ⟨k + 1, by omega, by go_num, ?_, HBo.out.alloc (by omega) _⟩
            rw [HF.out]
            simp only [beq_iff_eq, beq_eq_false_iff_ne] at p1 p2
            have key : joinD x l sN ((xn : Int), (yn : Int), (zn : Int)) = (if (yn : Int) = x then setN (if (xn : Int) = x then setN sN yn else sN) xn else (if (xn : Int) = x then setN sN yn else sN)) := by simp only [joinD, Int.toNat_natCast, po, if_true]
            rw [key]
            first | rw [if_pos p2, if_pos p1] | rw [if_pos p2, if_neg p1] | rw [if_neg p2, if_pos p1] | rw [if_neg p2, if_neg p1]
            all_goals simp [setN, HS1.out, HP.out, HQ.out]
          case measure => simp [intOf]; omega
    · obtain rfl : k = gs.length := by omega
      go_wp2
      go_ret
      exact ⟨rfl, HB.out⟩
set_option maxHeartbeats 2000000 in
theorem keysOf_c (v : Value) (m : Mz) (n : Nat) (w : World) (hm : MzAt w v m) (ok : MzOk m) (hin : InM m n) :
    Calls Try.prog 178 #[v, .int .i64 n] w fun e w' => e = .returned (.int .i64 (keyN m n)) ∧ Below w.heap.size w w' := by
  have hM := hm
  obtain ⟨⟨ad, cd, ak, ck, rfl, hd, hk'⟩, nd, nk⟩ := hM
  have hnk : (m.keys.length : Int) = m.size := ok.nk
  have hn := hin.lt ok
  have OK := Lib.hid ok; clear ok
  go_enter Try.func178, Try.ntmps178
  go_wp2_with fail
  refine (members_c n (by omega) _).mono ?_
  rintro e w1 ⟨v1, rfl, ho1, hb1⟩
  obtain ⟨a1, c1, rfl, -, hc1⟩ := (Own.of ho1).ic
  have HB1 : Hid (Below w.heap.size w w1) := below_box hb1 (by simp)
  obtain ⟨q0, q1, q2, z1⟩ := box3 hb1 (by simp)
  have hkw := hk'.later HB1.out
  have hml : (mem n).length ≤ 40 := by rw [mem_eq]; exact memK_len _ _
  obtain ⟨L, hL⟩ : ∃ L, L = mem n := ⟨_, rfl⟩
  have hLm : Hid (∀ k x, k < L.length → L[k]! = x → ∃ i : Nat, x = i ∧ n.testBit i = true) := by rw [hL]; exact fun k x => mem_at
  have HR : Hid (keyN m n = keysL m L) := by rw [hL]; rfl
  rw [← hL] at hc1 hml ⊢
  clear hb1 ho1 hL
  go_wp2
  go_loop [5, 11] (fun s i => ∃ k : Nat, k ≤ L.length ∧ i = .int .i64 k ∧ s = .int .i64 (keysL m (L.take k))) (fun _ i => L.length - (intOf i).toNat)
  case atStart => exact ⟨0, Nat.zero_le _, rfl, rfl⟩
  case round =>
    obtain ⟨k, hk, rfl, rfl⟩ := hrel
    have hs := keysL_lt OK.out (L.take k)
    by_cases hlt : k < L.length
    · obtain ⟨b, off, x, rfl, HX, hbs, e0⟩ := hc1.at k hlt
      obtain ⟨i, rfl, hi⟩ := hLm.out k x hlt HX.out
      have hik := hin i hi
      obtain ⟨b2, off2, y, rfl, HY, hbs2, e1⟩ := hkw.at i (by omega)
      have hy := key_facts OK.out (k := i) (by omega)
      rw [HY.out] at hy
      obtain ⟨yn, rfl⟩ := Int.eq_ofNat_of_zero_le hy.1
      have HS : Hid (keysL m (L.take (k + 1)) = keysL m (L.take k) ||| yn) := by
        show _ = _
        rw [take_snoc hlt, keysL_snoc, HX.out]
        simp only [Int.toNat_natCast]
        rw [HY.out]; rfl
      obtain ⟨sN, hsN⟩ : ∃ sN, sN = keysL m (L.take k) := ⟨_, rfl⟩
      rw [← hsN] at hs HS ⊢
      clear hsN
      have ea : bits .or .i64 (sN : Int) (yn : Int) = ((sN ||| yn : Nat) : Int) := i64_or sN yn (by omega) (by omega)
      have hil : (i : Int) < (m.keys.length : Int) := by omega
      clear hi
      go_wp2
      go_round
      case rel => exact ⟨k + 1, by omega, by go_num, by rw [HS.out]⟩
      case measure => simp [intOf]; omega
    · obtain rfl : k = L.length := by omega
      go_wp2
      go_ret
      exact ⟨ret_int (by first | rw [HR.out] | rw [HR.out, List.take_length]), HB1.out⟩
set_option maxHeartbeats 2000000 in
theorem nexts_c (v : Value) (m : Mz) (n : Nat) (w : World) (hm : MzAt w v m) (ok : MzOk m) (hin : InM m n) :
    Calls Try.prog 129 #[v, .int .i64 n] w fun e w' => e = .returned (.int .i64 (nexN m n)) ∧ Below w.heap.size w w' := by
  have hM := hm
  obtain ⟨⟨ad, cd, ak, ck, rfl, hd, hk'⟩, nd, nk⟩ := hM
  have hn := hin.lt ok
  have HIN := Lib.hid hin
  have OK := Lib.hid ok; clear ok
  go_enter Try.func129, Try.ntmps129
  go_wp2_with fail
  refine (keysOf_c _ m n _ (hm.later (by (repeat (first | exact Below.refl _ _ | apply Below.drew | apply below_drewN | (refine Below.setCell ?_ (by first | omega | (simp; done) | (simp; omega) | (dsimp only; omega)) _) | (refine Below.alloc ?_ (by first | omega | (simp; done) | (simp; omega) | (dsimp only; omega)) _))))) OK.out HIN.out).mono ?_
  rintro e w1 ⟨rfl, hb1⟩
  have HX1 := Lib.hid hb1
  obtain ⟨q0, q1, q2, z1⟩ := box3 hb1 (by simp)
  clear hb1
  go_wp2_with fail
  refine (members_c n (by omega) _).mono ?_
  rintro e w2 ⟨v2, rfl, ho2, hb2⟩
  obtain ⟨a2, c2, rfl, -, hc2⟩ := (Own.of ho2).ic
  have HX2 := Lib.hid (below_then HX1.out hb2)
  clear q0 q1 q2
  obtain ⟨q0, q1, q2, z2⟩ := box3 HX2.out (by simp)
  have HB2 : Hid (Below w.heap.size w w2) := below_box HX2.out (by simp)
  have hml : (mem n).length ≤ 40 := by rw [mem_eq]; exact memK_len _ _
  obtain ⟨L, hL⟩ : ∃ L, L = mem n := ⟨_, rfl⟩
  obtain ⟨S, hS⟩ : ∃ S, S = keyN m n := ⟨_, rfl⟩
  have HR : Hid (nexN m n = andn (unionL m S L) n) := by rw [hL, hS]; rfl
  rw [← hL] at hc2 hml ⊢
  rw [← hS]
  have HC2 := Lib.hid hc2
  clear hb2 ho2 hL hS hc2
  go_wp2
  go_loopw [6, 15] (fun o i wr => ∃ k : Nat, k ≤ L.length ∧ i = .int .i64 k ∧ o = .int .i64 (unionL m S (L.take k)) ∧ Below w2.heap.size w2 wr) (fun _ i _ => L.length - (intOf i).toNat)
  case atStart => exact ⟨0, Nat.zero_le _, rfl, rfl, Below.refl _ _⟩
  case round =>
    obtain ⟨wo, rfl⟩ : ∃ wo : World, wo = wr := ⟨_, rfl⟩
    obtain ⟨k, hk, rfl, rfl, hb⟩ := hrel
    have HBo := Lib.hid hb
    have HB := Lib.hid (below_then HB2.out hb)
    clear q0 q1 q2
    obtain ⟨q0, q1, q2, z3⟩ := box3 (below_then HX2.out hb) (by simp)
    have hs := unionL_lt OK.out S (L.take k)
    by_cases hlt : k < L.length
    · obtain ⟨b, off, x, rfl, HX, hbs, e0⟩ := (HC2.out.later hb).at k hlt
      have HS : Hid (unionL m S (L.take (k + 1)) = unionL m S (L.take k) ||| stN m x S) := by
        show _ = _
        rw [take_snoc hlt, unionL_snoc, HX.out]
      have hst := stN_lt OK.out x S
      obtain ⟨sN, hsN⟩ : ∃ sN, sN = unionL m S (L.take k) := ⟨_, rfl⟩
      obtain ⟨tN, htN⟩ : ∃ tN, tN = stN m x S := ⟨_, rfl⟩
      rw [← hsN] at hs HS ⊢
      rw [← htN] at hst HS
      have HT := Lib.hid htN.symm
      clear hsN htN
      have ea : bits .or .i64 (sN : Int) (tN : Int) = ((sN ||| tN : Nat) : Int) := i64_or sN tN (by omega) (by omega)
      clear hb
      go_wp2_with fail
      refine (steps_c _ m x S _ (hm.later HB.out) OK.out).mono ?_
      rintro e w3 ⟨rfl, hb3⟩
      rw [HT.out]
      go_wp2_with fail
      go_roundw
      case rel => exact ⟨k + 1, by omega, by go_num, by rw [HS.out], below_then HBo.out hb3⟩
      case measure => simp [intOf]; omega
    · obtain rfl : k = L.length := by omega
      rw [List.take_length] at hs ⊢
      obtain ⟨sN, hsN⟩ : ∃ sN, sN = unionL m S L := ⟨_, rfl⟩
      rw [← hsN] at hs HR ⊢
      clear hsN hb
      have ea : bits .andNot .i64 (sN : Int) (n : Int) = ((andn sN n : Nat) : Int) := i64_andNot sN n (by omega)
      go_wp2
      go_ret
      exact ⟨ret_int (by rw [HR.out]), HB.out⟩
set_option maxHeartbeats 2000000 in
theorem largest_c (v : Value) (m : Mz) (n : Nat) (w : World) (hm : MzAt w v m) (ok : MzOk m) (hin : InM m n) :
    Calls Try.prog 138 #[v, .int .i64 n] w fun e w' => e = .returned (.int .i64 (largN m n)) ∧ Below w.heap.size w w' := by
  have hM := hm
  obtain ⟨⟨ad, cd, ak, ck, rfl, hd, hk'⟩, nd, nk⟩ := hM
  have hn := hin.lt ok
  have HIN := Lib.hid hin
  have HI : Hid (∀ k, InM m (itL m n k)) := fun k i hi => hin i (itL_in k i hi)
  have HL := Lib.hid (itL_lt ok n)
  have HN := Lib.hid (nexN_lt ok)
  have OK := Lib.hid ok; clear ok
  have e1 : bits .and .i64 (n : Int) 1 = ((n &&& 1 : Nat) : Int) := i64_and n 1 (by omega) (by omega)
  have e2 : ∀ x : Nat, x < 4096 → bits .and .i64 (x : Int) (n : Int) = ((x &&& n : Nat) : Int) := fun x hx => i64_and x n (by omega) (by omega)
  obtain ⟨s0, hs0⟩ : ∃ s0, s0 = n &&& 1 := ⟨_, rfl⟩
  rw [← hs0] at e1
  have H0 : Hid (s0 = itL m n 0) := hs0
  clear hs0
  go_enter Try.func138, Try.ntmps138
  go_wp2_with fail
  refine (nexts_c _ m s0 _ (hm.later (by (repeat (first | exact Below.refl _ _ | apply Below.drew | apply below_drewN | (refine Below.setCell ?_ (by first | omega | (simp; done) | (simp; omega) | (dsimp only; omega)) _) | (refine Below.alloc ?_ (by first | omega | (simp; done) | (simp; omega) | (dsimp only; omega)) _))))) OK.out (by rw [H0.out]; exact HI.out 0)).mono ?_
  rintro e w1 ⟨rfl, hb1⟩
  have HX1 := Lib.hid hb1
  obtain ⟨q0, q1, q2, z1⟩ := box3 hb1 (by simp)
  have e3 := e2 _ (HN.out s0)
  have HB1 : Hid (Below w.heap.size w w1) := below_box hb1 (by simp)
  obtain ⟨x1, hx1⟩ : ∃ x1, x1 = nexN m s0 := ⟨_, rfl⟩
  rw [← hx1] at e3 ⊢
  have HX := Lib.hid hx1
  clear hb1 hx1
  have E2 := Lib.hid e2
  clear e2
  go_wp2
  go_loopw [5, 6] (fun o x wr => ∃ k : Nat, o = .int .i64 (itL m n k) ∧ x = .int .i64 ((nexN m (itL m n k) &&& n : Nat)) ∧ k ≤ itL m n k ∧ Below w1.heap.size w1 wr) (fun o _ _ => 4096 - (intOf o).toNat)
  case atStart => exact ⟨0, by rw [H0.out], by rw [HX.out, H0.out], Nat.zero_le _, Below.refl _ _⟩
  case round =>
    obtain ⟨wo, rfl⟩ : ∃ wo : World, wo = wr := ⟨_, rfl⟩
    obtain ⟨k, rfl, rfl, hk, hb⟩ := hrel
    have HBo := Lib.hid hb
    have HB := Lib.hid (below_then HB1.out hb)
    clear q0 q1 q2
    obtain ⟨q0, q1, q2, z3⟩ := box3 (below_then HX1.out hb) (by simp)
    clear hb e3
    have HS : Hid (itL m n (k + 1) = itL m n k ||| (nexN m (itL m n k) &&& n)) := rfl
    have hs := HL.out k
    have hs1 := HL.out (k + 1)
    have hx : (nexN m (itL m n k) &&& n) < 4096 := Nat.lt_of_le_of_lt Nat.and_le_left (HN.out _)
    by_cases h0 : nexN m (itL m n k) &&& n = 0
    · have HF := Lib.hid (largN_end OK.out hk h0)
      rw [h0]
      go_wp2
      go_ret
      exact ⟨ret_int (by rw [HF.out]), HB.out⟩
    · have hg := lgN_grows h0
      have HG : Hid (itL m n k < itL m n (k + 1)) := hg
      obtain ⟨sN, hsN⟩ : ∃ sN, sN = itL m n k := ⟨_, rfl⟩
      rw [← hsN] at hx h0 hs hk HS HG ⊢
      obtain ⟨tN, htN⟩ : ∃ tN, tN = nexN m sN &&& n := ⟨_, rfl⟩
      rw [← htN] at hx h0 HS ⊢
      obtain ⟨uN, huN⟩ : ∃ uN, uN = itL m n (k + 1) := ⟨_, rfl⟩
      rw [← huN] at hs1 HS HG
      have HU := Lib.hid huN
      have e4 : bits .or .i64 (sN : Int) (tN : Int) = (uN : Int) := by rw [HS.out]; exact i64_or sN tN (by omega) (by omega)
      have h0' : ¬ ((tN : Int) = 0) := by omega
      have e5 := E2.out _ (HN.out uN)
      clear hsN htN huN hg h0
      go_wp2_with fail
      refine (nexts_c _ m uN _ (hm.later HB.out) OK.out (by rw [HU.out]; exact HI.out (k + 1))).mono ?_
      rintro e w2 ⟨rfl, hb2⟩
      obtain ⟨yN, hyN⟩ : ∃ yN, yN = nexN m uN := ⟨_, rfl⟩
      rw [← hyN] at e5 ⊢
      have HY := Lib.hid hyN
      clear hyN
      go_wp2_with fail
      go_roundw
      case rel => exact ⟨k + 1, by rw [HU.out], by rw [HY.out, HU.out], by have := HG.out; have := HU.out; omega, below_then HBo.out hb2⟩
      case measure => have := HG.out; simp [intOf]; omega
end Go.Proofs.Ytcjcgcgcloanpaa

namespace Go.KD
open Go.RowKit
/-- A set of nodes that no step leaves. -/
def ClosedR (m : Mz) (s C : Nat) : Prop := ∀ y : Nat, C.testBit y = true → SubN (stN m y s) C
def rK (m : Mz) (s x : Nat) : Nat → Nat
  | 0 => 2 ^ x
  | k + 1 => rK m s x k ||| unionL m s (mem (rK m s x k))
def reachN (m : Mz) (x s : Nat) : Nat := rK m s x 4096
theorem stN_in {m : Mz} (ok : MzOk m) (x : Int) (s : Nat) : InM m (stN m x s) := by
  intro i hi
  rw [stN_bit ok] at hi
  exact (opn_range ok hi).2.2.2
theorem rK_in {m : Mz} (ok : MzOk m) (s : Nat) {x : Nat} (hx : (x : Int) < m.size) : ∀ k, InM m (rK m s x k)
  | 0 => by
    intro i hi
    have hi : (2 ^ x).testBit i = true := hi
    rw [Nat.testBit_two_pow] at hi
    have : x = i := by simpa using hi
    omega
  | k + 1 => by
    intro i hi
    have hi : (rK m s x k ||| unionL m s (mem (rK m s x k))).testBit i = true := hi
    rw [Nat.testBit_or, Bool.or_eq_true, unionL_bit, List.any_eq_true] at hi
    rcases hi with hi | ⟨y, _, hi⟩
    · exact rK_in ok s hx k i hi
    · exact stN_in ok y s i hi
theorem rK_sub {m : Mz} {s x C : Nat} (hx : C.testBit x = true) (hc : ClosedR m s C) : ∀ k, SubN (rK m s x k) C
  | 0 => by
    intro i hi
    have hi : (2 ^ x).testBit i = true := hi
    rw [Nat.testBit_two_pow] at hi
    have : x = i := by simpa using hi
    rw [← this]; exact hx
  | k + 1 => by
    intro i hi
    have ih := rK_sub hx hc k
    have hi : (rK m s x k ||| unionL m s (mem (rK m s x k))).testBit i = true := hi
    rw [Nat.testBit_or, Bool.or_eq_true, unionL_bit, List.any_eq_true] at hi
    rcases hi with hi | ⟨y, hy, hi⟩
    · exact ih i hi
    · obtain ⟨j, _, hj, rfl⟩ := (in_mem _ _).1 hy
      exact hc j (ih j hj) i hi
theorem rK_grows {m : Mz} {s x k : Nat} (h : rK m s x (k + 1) ≠ rK m s x k) : rK m s x k < rK m s x (k + 1) := by
  have h1 : rK m s x k ≤ rK m s x (k + 1) := by show _ ≤ rK m s x k ||| _; exact Nat.left_le_or
  omega
theorem rK_stay {m : Mz} {s x k : Nat} (h : rK m s x (k + 1) = rK m s x k) : ∀ j, rK m s x (k + j) = rK m s x k
  | 0 => rfl
  | j + 1 => by
    show rK m s x (k + j) ||| unionL m s (mem (rK m s x (k + j))) = _
    rw [rK_stay h j]; exact h
theorem rK_fix {m : Mz} (ok : MzOk m) (s : Nat) {x : Nat} (hx : (x : Int) < m.size) : ∃ k, ∀ j, rK m s x (k + j) = rK m s x k ∧ k ≤ 4096 := by
  obtain ⟨k, hk, h⟩ := grow_fix (fun k => rK m s x k) (fun k => rK m s x (k + 1) = rK m s x k) (fun k => by
    by_cases h : rK m s x (k + 1) = rK m s x k
    · exact .inl h
    · exact .inr (rK_grows h)) (fun k => (rK_in ok s hx k).lt ok)
  exact ⟨k, fun j => ⟨rK_stay h j, by omega⟩⟩
theorem reach_gen {m : Mz} (ok : MzOk m) (s : Nat) {x : Nat} (hx : (x : Int) < m.size) (n : Nat) (hn : 4096 ≤ n) : (rK m s x n).testBit x = true ∧ ClosedR m s (rK m s x n) := by
  obtain ⟨k, h⟩ := rK_fix ok s hx
  have hk := (h 0).2
  have e1 : rK m s x n = rK m s x k := by rw [show n = k + (n - k) from by omega]; exact (h _).1
  have e2 : rK m s x (k + 1) = rK m s x k := (h 1).1
  rw [e1]
  constructor
  · have : ∀ j, (rK m s x j).testBit x = true := by
      intro j
      induction j with
      | zero => show (2 ^ x).testBit x = true; rw [Nat.testBit_two_pow]; simp
      | succ j ih => show (rK m s x j ||| _).testBit x = true; rw [Nat.testBit_or, ih]; rfl
    exact this k
  · intro y hy i hi
    rw [← e2]
    show (rK m s x k ||| unionL m s (mem (rK m s x k))).testBit i = true
    rw [Nat.testBit_or, Bool.or_eq_true, unionL_bit, List.any_eq_true]
    refine .inr ⟨y, ?_, hi⟩
    have := bit_lt (n := 12) ((rK_in ok s hx k).lt ok) hy
    exact (in_mem _ _).2 ⟨y, by omega, hy, rfl⟩
theorem reachN_in {m : Mz} (ok : MzOk m) (s : Nat) {x : Nat} (hx : (x : Int) < m.size) : InM m (reachN m x s) := rK_in ok s hx _
/-- What is reached: the least closed set with the node. -/
theorem reach_is {m : Mz} (ok : MzOk m) {s x out : Nat} (hx : (x : Int) < m.size) (h0 : out.testBit x = true) (hc : ClosedR m s out) (hl : ∀ C, C.testBit x = true → ClosedR m s C → SubN out C) : out = reachN m x s := by
  obtain ⟨h1, h2⟩ := reach_gen ok s hx 4096 (Nat.le_refl _)
  exact SubN.antisymm (hl _ h1 h2) (rK_sub h0 hc _)
/-! A search, seen from without: out is found, todo is still to be looked at. -/
structure Sr (m : Mz) (s x out : Nat) (todo : List Int) : Prop where
  has : out.testBit x = true
  inm : InM m out
  least : ∀ C, C.testBit x = true → ClosedR m s C → SubN out C
  sub : ∀ t ∈ todo, ∃ i : Nat, t = i ∧ out.testBit i = true
  done : ∀ y : Nat, out.testBit y = true → (y : Int) ∈ todo ∨ SubN (stN m y s) out
theorem Sr.start {m : Mz} {s x : Nat} (hx : (x : Int) < m.size) : Sr m s x (2 ^ x) [(x : Int)] := by
  have hb : ∀ i, (2 ^ x).testBit i = true ↔ x = i := fun i => by rw [Nat.testBit_two_pow]; simp
  refine ⟨(hb x).2 rfl, fun i hi => ?_, fun C hC _ i hi => ?_, fun t ht => ?_, fun y hy => .inl ?_⟩
  · have := (hb i).1 hi; omega
  · rw [← (hb i).1 hi]; exact hC
  · exact ⟨x, by simpa using ht, (hb x).2 rfl⟩
  · rw [(hb y).1 hy]; simp
theorem Sr.stop {m : Mz} (ok : MzOk m) {s x out : Nat} (h : Sr m s x out []) (hx : (x : Int) < m.size) : out = reachN m x s :=
  reach_is ok hx h.has (fun y hy => by rcases h.done y hy with h' | h'; · cases h'
                                       · exact h') h.least
theorem Sr.step {m : Mz} (ok : MzOk m) {s x out : Nat} {t : Int} {l : List Int} (h : Sr m s x out (t :: l)) : Sr m s x (out ||| andn (stN m t s) out) (l ++ mem (andn (stN m t s) out)) := by
  obtain ⟨i, rfl, hi⟩ := h.sub t (by simp)
  have hbit : ∀ j, (out ||| andn (stN m (i : Int) s) out).testBit j = (out.testBit j || (stN m (i : Int) s).testBit j) := fun j => by
    rw [Nat.testBit_or, andn_bit]; cases out.testBit j <;> cases (stN m (i : Int) s).testBit j <;> rfl
  have hsub : SubN out (out ||| andn (stN m (i : Int) s) out) := fun j hj => by rw [hbit, hj]; rfl
  refine ⟨hsub _ h.has, fun j hj => ?_, fun C hC hcl j hj => ?_, fun u hu => ?_, fun y hy => ?_⟩
  · rw [hbit, Bool.or_eq_true] at hj
    rcases hj with hj | hj
    · exact h.inm j hj
    · exact stN_in ok _ s j hj
  · have ih := h.least C hC hcl
    rw [hbit, Bool.or_eq_true] at hj
    rcases hj with hj | hj
    · exact ih j hj
    · exact hcl i (ih i hi) j hj
  · rw [List.mem_append] at hu
    rcases hu with hu | hu
    · obtain ⟨j, hj, hb⟩ := h.sub u (by simp [hu])
      exact ⟨j, hj, hsub j hb⟩
    · obtain ⟨j, _, hb, rfl⟩ := (in_mem _ _).1 hu
      refine ⟨j, rfl, ?_⟩
      rw [andn_bit, Bool.and_eq_true] at hb
      rw [hbit, hb.1]; simp
  · by_cases hyi : y = i
    · right
      subst hyi
      intro j hj
      rw [hbit, hj]; simp
    · rw [hbit, Bool.or_eq_true] at hy
      by_cases hyo : out.testBit y = true
      · rcases h.done y hyo with h' | h'
        · left
          rw [List.mem_append]; left
          rcases List.mem_cons.1 h' with h' | h'
          · exact absurd (by omega) hyi
          · exact h'
        · exact .inr fun j hj => hsub j (h' j hj)
      · left
        have hst : (stN m (i : Int) s).testBit y = true := by rcases hy with hy | hy; · exact absurd hy hyo
                                                              · exact hy
        rw [List.mem_append]; right
        refine (in_mem _ _).2 ⟨y, ?_, ?_, rfl⟩
        · have := bit_lt (n := 12) (stN_lt ok _ s) hst; omega
        · rw [andn_bit, hst]; simp [hyo]
/-- How much is left to do. -/
theorem popN_add {a b : Nat} (h : ∀ i, a.testBit i = true → b.testBit i = false) : popN (a ||| b) = popN a + popN b := by
  unfold popN
  induction (List.range 12) with
  | nil => rfl
  | cons x l ih =>
    simp only [List.filter_cons, Nat.testBit_or] at ih ⊢
    cases ha : a.testBit x
    · cases hb : b.testBit x <;> simp [ih] <;> omega
    · rw [h x ha]; simp [ih]; omega
def srM (out : Nat) (n : Nat) : Nat := (12 - popN out) * 2 + n
theorem sr_less {out st : Nat} {l : List Int} (hs : st < 4096) : srM (out ||| andn st out) (l ++ mem (andn st out)).length < srM out (l.length + 1) := by
  have h1 : popN (out ||| andn st out) = popN out + popN (andn st out) := popN_add fun i hi => by rw [andn_bit, hi]; simp
  have h2 : (mem (andn st out)).length = popN (andn st out) := mem_popN (andn_lt (n := 12) hs)
  have h3 := popN_le (out ||| andn st out)
  unfold srM
  rw [List.length_append, h2]
  omega
/-! What one has at last -/
def gainN (m : Mz) (s : Nat) : Nat := s ||| keyN m (reachN m 0 s)
def gK (m : Mz) (s : Nat) : Nat → Nat
  | 0 => s
  | k + 1 => gainN m (gK m s k)
def lastN (m : Mz) (s : Nat) : Nat := gK m s 64
theorem gK_lt {m : Mz} (ok : MzOk m) {s : Nat} (hs : s < 64) : ∀ k, gK m s k < 64
  | 0 => hs
  | k + 1 => Nat.or_lt_two_pow (n := 6) (gK_lt ok hs k) (keysL_lt ok _)
theorem gK_stay {m : Mz} {s k : Nat} (h : gainN m (gK m s k) = gK m s k) : ∀ j, gK m s (k + j) = gK m s k
  | 0 => rfl
  | j + 1 => by
    show gainN m (gK m s (k + j)) = _
    rw [gK_stay h j]; exact h
theorem lastN_eq {m : Mz} (ok : MzOk m) {s k : Nat} (hs : s < 64) (hk : k ≤ gK m s k) (h : gainN m (gK m s k) = gK m s k) : lastN m s = gK m s k := by
  have := gK_lt ok hs k
  unfold lastN
  rw [show 64 = k + (64 - k) from by omega, gK_stay h]
theorem gain_grows {m : Mz} {s : Nat} (h : gainN m s ≠ s) : s < gainN m s := by
  have : s ≤ gainN m s := Nat.left_le_or
  omega
/-- The nodes that are reached at last. -/
def nodesN (m : Mz) (s : Nat) : Nat := reachN m 0 (lastN m s)
def winB (m : Mz) (s : Nat) : Bool := (nodesN m s).testBit (m.size - 1).toNat
/-- A maze whose keys are cut down to a set. -/
def cutM (m : Mz) (s : Nat) : Mz := ⟨m.size, m.doors, m.keys.map fun k => ((k.toNat &&& s : Nat) : Int)⟩
theorem cutM_ok {m : Mz} (ok : MzOk m) (s : Nat) : MzOk (cutM m s) := by
  refine ⟨ok.s1, ok.s2, ok.nd, by simp [cutM, ok.nk], ok.dr, fun k hk => ?_⟩
  simp only [cutM, List.length_map] at hk
  have := key_facts ok hk
  show setB (m.keys.map _)[k]! = true
  rw [getElem!_pos _ k (by simpa using hk), List.getElem_map, setB_true]
  rw [getElem!_pos m.keys k hk] at this
  have h2 : m.keys[k].toNat &&& s < 64 := Nat.lt_of_le_of_lt Nat.and_le_left (by omega)
  omega
/-- Does a set win? -/
def setWinB (m : Mz) (s : Nat) : Bool := winB (cutM m s) 0
end Go.KD

namespace Go.KD
open Go.RowKit
def lenV : Value → Nat
  | .slice _ n _ => n
  | _ => 0
theorem lenV_slice (a : Option Addr) (n c : Nat) : lenV (.slice a n c) = n := rfl
end Go.KD
namespace Go.Proofs.Ytcjcgcgcloanpaa
open Go.RowKit Go.KD
attribute [local go_sem] later_cell later_frozen
set_option maxRecDepth 100000 in
set_option maxHeartbeats 4000000 in
theorem reach_c (v : Value) (m : Mz) (x s : Nat) (w : World) (hm : MzAt w v m) (ok : MzOk m) (hx : (x : Int) < m.size) :
    Calls Try.prog 184 #[v, .int .i64 x, .int .i64 s] w fun e w' => e = .returned (.int .i64 (reachN m x s)) ∧ Below w.heap.size w w' := by
  have hM := hm
  obtain ⟨⟨ad, cd, ak, ck, rfl, hd, hk'⟩, nd, nk⟩ := hM
  obtain ⟨i0, ji, jz0, jz1, jz2⟩ := info_parts infoI
  have hx12 : x < 12 := by have := ok.s2; omega
  obtain ⟨p, HP, ep, hp⟩ := shl_at x hx12
  have hx2 : (x : Int) < 12 := by omega
  have HX := Lib.hid hx; clear hx
  have HS0 : Hid (Sr m s x p [(x : Int)]) := by show Sr m s x p _; rw [HP.out]; exact Sr.start HX.out
  have HM0 : Hid (srM p 1 ≤ 25) := by show srM _ _ ≤ _; unfold srM; omega
  have OK := Lib.hid ok; clear ok
  go_enter Try.func184, Try.ntmps184
  go_wp2
  go_loopw [7, 8] (fun o t wr => ∃ out T, o = .int .i64 (out : Nat) ∧ QAt (w.heap.size + 1) wr t T ∧ Hid (Sr m s x out T) ∧ Hid (srM out T.length ≤ 25) ∧ Below (w.heap.size + 1) (w.alloc (.cells #[.int .i64 m.size, .slice ad m.doors.length cd, .slice ak m.keys.length ck] 27)) wr) (fun o t _ => srM (intOf o).toNat (lenV t))
  case atStart =>
    refine ⟨p, [(x : Int)], rfl, ?_, HS0, HM0, (Below.refl _ _).alloc (by simp) _⟩
    refine ⟨w.heap.size + 1, 0, 1, rfl, Nat.le_refl _, by simp, Nat.le_refl _, by unfold maxLen; omega, fun j hj => ?_, fun j hj => ?_⟩
    · have : j = 0 := by simpa using hj
      subst this
      simp [go_sem]
    · have : j = 0 := by omega
      subst this
      simp [go_sem]
  case round =>
    obtain ⟨wo, rfl⟩ : ∃ wo : World, wo = wr := ⟨_, rfl⟩
    obtain ⟨out, T, rfl, hq, HS, HM, hb⟩ := hrel
    have HBo := Lib.hid hb
    have HB := Lib.hid (below_box hb (by omega))
    obtain ⟨q0, q1, q2, z1⟩ := box3 hb (by omega)
    have hzo : w.heap.size + 1 ≤ wo.heap.size := by omega
    clear hb HS0 HM0
    have hol := HS.out.inm.lt OK.out
    cases T with
    | nil =>
      obtain ⟨g, off, cap, rfl, -⟩ := hq
      have HR := Lib.hid (HS.out.stop OK.out HX.out)
      go_wp2
      go_ret
      exact ⟨ret_int (by rw [HR.out]), HB.out⟩
    | cons t l =>
      have hq' := hq
      obtain ⟨g, off, cap, rfl, hg0, hgz, hlc, hcm, hcells, hroom⟩ := hq'
      obtain ⟨i, ht, hi⟩ := HS.out.sub t (by simp)
      have q3 : wo.cell? ⟨g, off, none⟩ = some (.int .i64 t) := by have := hcells 0 (by simp); simpa using this
      have HNS := Lib.hid (HS.out.step OK.out)
      have hst := stN_lt OK.out t s
      have HLS : Hid (srM (out ||| andn (stN m t s) out) (l ++ mem (andn (stN m t s) out)).length < srM out (l.length + 1)) := sr_less hst
      have HQ := Lib.hid hq
      have hll : l.length + 1 ≤ 25 := by have := HM.out; unfold srM at this; simp only [List.length_cons] at this; omega
      obtain ⟨st, hstE⟩ : ∃ st, st = stN m t s := ⟨_, rfl⟩
      rw [← hstE] at HNS HLS hst
      have HST := Lib.hid hstE; clear hstE
      have ea : bits .andNot .i64 (st : Int) (out : Int) = ((andn st out : Nat) : Int) := i64_andNot st out (by omega)
      have hnl : andn st out < 4096 := andn_lt (n := 12) hst
      obtain ⟨nx, hnx⟩ : ∃ nx, nx = andn st out := ⟨_, rfl⟩
      rw [← hnx] at ea hnl HNS HLS
      clear hnx hcells hroom hi ht hq
      have eo : bits .or .i64 (out : Int) (nx : Int) = ((out ||| nx : Nat) : Int) := i64_or out nx (by omega) (by omega)
      have h40 := mem_len40' nx
      simp only [List.length_cons] at hlc ⊢
      have hlc1 : 1 ≤ cap := by omega
      have h1l : (1 : Int) ≤ (l.length : Int) + 1 := by omega
      by_cases hc1 : cap = 1
      all_goals
        go_wp2
        go_region_held3 (fun W => W.cell? ⟨w.heap.size, 0, none⟩ = some (.int .i64 m.size) ∧ W.cell? ⟨w.heap.size, 1, none⟩ = some (.slice ad m.doors.length cd) ∧ W.cell? ⟨w.heap.size, 2, none⟩ = some (.slice ak m.keys.length ck) ∧ W.cell? ⟨g, off, none⟩ = some (.int .i64 t))
          (first | exact ⟨q0, q1, q2, q3⟩ | exact ⟨r0, r1, r2, r3⟩)
          ((go_at_call 124; refine (steps_c _ m t s _ (hm.later HB.out.drew) OK.out).mono ?_; rintro e w2 ⟨rfl, hb2⟩; rw [← HST.out]; have r0 : w2.cell? ⟨w.heap.size, 0, none⟩ = some (.int .i64 m.size) := (hb2.cell (p := ⟨w.heap.size, 0, none⟩) (show w.heap.size < wo.heap.size by assumption)).trans q0; have r1 : w2.cell? ⟨w.heap.size, 1, none⟩ = some (.slice ad m.doors.length cd) := (hb2.cell (p := ⟨w.heap.size, 1, none⟩) (show w.heap.size < wo.heap.size by assumption)).trans q1; have r2 : w2.cell? ⟨w.heap.size, 2, none⟩ = some (.slice ak m.keys.length ck) := (hb2.cell (p := ⟨w.heap.size, 2, none⟩) (show w.heap.size < wo.heap.size by assumption)).trans q2; have r3 : w2.cell? ⟨g, off, none⟩ = some (.int .i64 t) := (hb2.cell (p := ⟨g, off, none⟩) (show g < wo.heap.size by assumption)).trans q3))
        have HQ2 : Hid (QAt (w.heap.size + 1) w2 (.slice (some ⟨g, off, none⟩) (l.length + 1) cap) (t :: l)) := HQ.out.later (show Below wo.heap.size wo w2 from ((Below.refl _ _).drew).trans hb2)
        have HB2 : Hid (Below (w.heap.size + 1) (w.alloc (.cells #[.int .i64 m.size, .slice ad m.doors.length cd, .slice ak m.keys.length ck] 27)) w2) := HBo.out.drew.trans (hb2.mono hzo)
        have hz2 : w.heap.size + 1 ≤ w2.heap.size := by have := HB2.out.size; simpa using this
        clear hb2 q0 q1 q2 q3 r0 r1 r2 r3
        go_wp2
        go_region_law (first
          | (refine step_append_queue w3 (by rfl) _ _ 25 (by rfl) 3 i0 (.int .i64 0) Try.underlying25 ji jz0 jz1 jz2 rfl (w.heap.size + 1) _ l (by rfl) (HQ3.out.tail (by simp) (by omega) (by simp [hc1])) a3 c3 (mem nx) (by rfl) HC3.out (by omega) (by have := HB3.out.size; omega) ?_; intro v4 w4 hq4 hb4)
          | (go_simp; go_wp2_with (go_at_call 77; refine (members_c nx (by omega) _).mono ?_; rintro e w3 ⟨v3, rfl, ho3, hb3⟩; obtain ⟨a3, c3, rfl, -, hc3⟩ := (Own.of ho3).ic; have HQ3 := Lib.hid (HQ2.out.later ((Below.refl _ _).drew.trans hb3)); have HC3 := Lib.hid hc3; have HB3 : Hid (Below (w.heap.size + 1) w2 w3) := (Below.refl _ _).drew.trans (hb3.mono hz2); clear ho3 hc3 hb3)))
        all_goals
          simp only [List.getElem_toArray, List.getElem_cons_succ, List.getElem_cons_zero, List.size_toArray, List.length_cons, List.length_nil, Act.put, Act.eval, List.setIfInBounds_toArray, List.set_cons_succ, List.set_cons_zero]
          go_wp2
          go_roundw
          case rel => exact ⟨out ||| nx, l ++ mem nx, rfl, hq4, HNS, by have := HLS.out; have := HM.out; simp only [List.length_cons] at this; show srM _ _ ≤ _; omega, HB2.out.trans (HB3.out.trans hb4)⟩
          case measure =>
            obtain ⟨g4, o4, c4, rfl, -⟩ := hq4
            have := HLS.out
            simpa [intOf, lenV] using this
end Go.Proofs.Ytcjcgcgcloanpaa

namespace Go.KD
open Go.RowKit
theorem get_c3' (l : List D3) (j : Nat) (hj : j < l.length * 3) : (c3 l)[j]? = some (.int .i64 (if j % 3 = 0 then (l[j / 3]!).1 else if j % 3 = 1 then (l[j / 3]!).2.1 else (l[j / 3]!).2.2)) := by
  obtain ⟨h0, h1, h2⟩ := get_c3 l (j / 3) (by omega)
  by_cases a : j % 3 = 0
  · rw [if_pos a, ← h0]; congr 1; omega
  · rw [if_neg a]
    by_cases b : j % 3 = 1
    · rw [if_pos b, ← h1]; congr 1; omega
    · rw [if_neg b, ← h2]; congr 1; omega
theorem d3_news {w : World} {ad : Addr} {l : List D3} (h : D3C w (some ad) l) : ∀ j u, (c3 l)[j]? = some u → w.cell? (ad.add j) = some u := by
  intro j u hu
  have hj : j < l.length * 3 := by
    rcases Nat.lt_or_ge j (l.length * 3) with h | h
    · exact h
    · rw [List.getElem?_eq_none (by rw [length_c3]; exact h)] at hu; cases hu
  obtain ⟨b, off, hb, hbs, c0, c1, c2⟩ := h (j / 3) (by omega)
  cases hb
  rw [add_at rfl, ← hu, get_c3' l j hj]
  by_cases a : j % 3 = 0
  · rw [if_pos a, ← c0]; congr 2; omega
  · rw [if_neg a]
    by_cases b : j % 3 = 1
    · rw [if_pos b, ← c1]; congr 2; omega
    · rw [if_neg b, ← c2]; congr 2; omega
theorem c3_one {l : List D3} : ∀ u ∈ c3 l, u.oneCell' = true := by
  intro u hu
  simp only [c3, List.mem_flatMap, List.mem_cons, List.not_mem_nil, or_false] at hu
  obtain ⟨d, _, h⟩ := hu
  rcases h with h | h | h <;> subst h <;> rfl
/-- Six cells and three marks of two blocks. -/
structure Six (W : World) (n : Nat) (a b c x y z : Value) : Prop where
  a : W.cell? ⟨n, 0, none⟩ = some a
  b : W.cell? ⟨n, 1, none⟩ = some b
  c : W.cell? ⟨n, 2, none⟩ = some c
  x : W.cell? ⟨n + 1, 0, none⟩ = some x
  y : W.cell? ⟨n + 1, 1, none⟩ = some y
  z : W.cell? ⟨n + 1, 2, none⟩ = some z
  fx : W.frozen? ⟨n + 1, 0, none⟩ = false
  fy : W.frozen? ⟨n + 1, 1, none⟩ = false
  fz : W.frozen? ⟨n + 1, 2, none⟩ = false
  sz : n + 1 < W.heap.size
theorem Six.later {W W' : World} {n : Nat} {a b c x y z : Value} (h : Six W n a b c x y z) (hb : Below W.heap.size W W') : Six W' n a b c x y z := by
  have hs := h.sz
  have hz := hb.size
  refine ⟨?_, ?_, ?_, ?_, ?_, ?_, ?_, ?_, ?_, by omega⟩
  · rw [hb.cell (p := ⟨n, 0, none⟩) (by show n < _; omega)]; exact h.a
  · rw [hb.cell (p := ⟨n, 1, none⟩) (by show n < _; omega)]; exact h.b
  · rw [hb.cell (p := ⟨n, 2, none⟩) (by show n < _; omega)]; exact h.c
  · rw [hb.cell (p := ⟨n + 1, 0, none⟩) hs]; exact h.x
  · rw [hb.cell (p := ⟨n + 1, 1, none⟩) hs]; exact h.y
  · rw [hb.cell (p := ⟨n + 1, 2, none⟩) hs]; exact h.z
  · rw [hb.frozen (p := ⟨n + 1, 0, none⟩) hs]; exact h.fx
  · rw [hb.frozen (p := ⟨n + 1, 1, none⟩) hs]; exact h.fy
  · rw [hb.frozen (p := ⟨n + 1, 2, none⟩) hs]; exact h.fz
end Go.KD
namespace Go.Proofs.Ytcjcgcgcloanpaa
open Go.RowKit Go.KD
attribute [local go_sem] later_cell later_frozen

end Go.Proofs.Ytcjcgcgcloanpaa
