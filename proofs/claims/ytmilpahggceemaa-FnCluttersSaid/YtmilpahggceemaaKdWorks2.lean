/- Contracts of the functions on works and mazes: validity. -/
import Derived.Test.YtmilpahggceemaaKdWorks
import Derived.Test.YtmilpahggceemaaKdMore
set_option linter.unusedVariables false
set_option linter.unusedSimpArgs false
namespace Go.Proofs.Ytmilpahggceemaa
open Go.RowKit Go.KD
attribute [local go_sem] later_cell later_frozen
set_option maxRecDepth 100000 in
set_option maxHeartbeats 1000000 in
theorem compareGates_c (a b c d x y z u : Int) (w : World) : Calls Try.prog 153 #[.agg #[.int .i64 a, .int .i64 b, .int .i64 c, .int .i64 d], .agg #[.int .i64 x, .int .i64 y, .int .i64 z, .int .i64 u]] w fun e w' =>
   e = .returned (.int .i64 (cmp4 (a, b, c, d) (x, y, z, u))) ∧ Below w.heap.size w w' := by
  go_enter Try.func153, Try.ntmps153
  go_wp2
  refine wp_region_tail 20 (by kernel_rfl) (by kernel_rfl) ?_
  simp only [List.take_succ_cons, List.take_zero, List.drop_succ_cons, List.drop_zero]
  repeat (first | still_step | still_call (compare_c _ _ _))
  refine wpStill_nil ?_
  go_wp2_with fail
  refine (or_c _ _ _ [cmpI a x, cmpI b y, cmpI c z, cmpI d u] _ rfl ((ic_lit _ _ _ _ _ (by simp) rfl).later (Below.refl _ _).drew) (by simp)).mono ?_
  rintro e w' ⟨rfl, rfl⟩
  go_wp2_with fail
  go_ret
  exact ⟨ret_int rfl, by (repeat (first | exact Below.refl _ _ | apply Below.drew | apply below_drewN | (refine Below.setCell ?_ (by first | omega | (simp; done) | (simp; omega) | (dsimp only; omega)) _) | (refine Below.alloc ?_ (by first | omega | (simp; done) | (simp; omega) | (dsimp only; omega)) _)))⟩
set_option maxRecDepth 100000 in
set_option maxHeartbeats 1000000 in
theorem compareDoors_c (a b c x y z : Int) (w : World) : Calls Try.prog 293 #[.agg #[.int .i64 a, .int .i64 b, .int .i64 c], .agg #[.int .i64 x, .int .i64 y, .int .i64 z]] w fun e w' =>
   e = .returned (.int .i64 (cmp3 (a, b, c) (x, y, z))) ∧ Below w.heap.size w w' := by
  go_enter Try.func293, Try.ntmps293
  go_wp2
  refine wp_region_tail 15 (by kernel_rfl) (by kernel_rfl) ?_
  simp only [List.take_succ_cons, List.take_zero, List.drop_succ_cons, List.drop_zero]
  repeat (first | still_step | still_call (compare_c _ _ _))
  refine wpStill_nil ?_
  go_wp2_with fail
  refine (or_c _ _ _ [cmpI a x, cmpI b y, cmpI c z] _ rfl ((ic_lit _ _ _ _ _ (by simp) rfl).later (Below.refl _ _).drew) (by simp)).mono ?_
  rintro e w' ⟨rfl, rfl⟩
  go_wp2_with fail
  go_ret
  exact ⟨ret_int rfl, by (repeat (first | exact Below.refl _ _ | apply Below.drew | apply below_drewN | (refine Below.setCell ?_ (by first | omega | (simp; done) | (simp; omega) | (dsimp only; omega)) _) | (refine Below.alloc ?_ (by first | omega | (simp; done) | (simp; omega) | (dsimp only; omega)) _)))⟩
/-- The first place at which p is so, or -1. -/
theorem indexFunc_c (F : FuncId) (fn : Func) (hf1 : Try.prog.funcs[F]? = some fn) (hf2 : (fn.name == "runtime.NumGoroutine") = false) (hf3 : fn.body.isNone = false) (caps : Array Value) (p : Int → Bool) (a : Option Addr) (cap n : Nat) (l : List Int) (w : World) (hn : n = l.length) (hA : IC w a l) (hl : n ≤ 1048576)
    (hp : ∀ k x, k < l.length → l[k]! = x → ∀ w', Below w.heap.size w w' → Calls Try.prog F (#[.int .i64 x] ++ caps) w' fun e w'' => e = .returned (.bool (p x)) ∧ Below w'.heap.size w' w'') :
    Calls Try.prog 285 #[.slice a n cap, .func (.func F) #[] caps] w fun e w' => e = .returned (.int .i64 (idxP p l)) ∧ Below w.heap.size w w' := by
  have HN := Lib.hid hn
  have HP := Lib.hid hp
  have hcf := run_callFunc hf1 hf2 hf3
  clear hn hp hf1 hf2 hf3
  go_enter Try.func285, Try.ntmps285
  go_wp2
  go_loopw [5, 8] (fun _ i wr => ∃ k : Nat, k ≤ n ∧ i = .int .i64 k ∧ Below w.heap.size w wr ∧ Hid (∀ j, j < k → p l[j]! = false)) (fun _ i _ => n - (intOf i).toNat)
  case atStart => exact ⟨0, Nat.zero_le _, rfl, Below.refl _ _, fun j hj => by omega⟩
  case round =>
    obtain ⟨k, hk, rfl, hb, HK⟩ := hrel
    by_cases hlt : k < n
    · have hlt' : k < l.length := by rw [← HN.out]; exact hlt
      obtain ⟨b, off, x, rfl, HX, hbs, e0⟩ := (hA.later hb).at k hlt'
      cases hpx : p x
      · go_wp2_with fail
        refine (HP.out k x hlt' HX.out _ hb).mono ?_
        rintro e w1 ⟨rfl, hb1⟩
        rw [hpx]
        go_wp2_with fail
        go_roundw
        case rel => exact ⟨k+1, by omega, by go_num, below_then hb hb1, fun j hj => by
          rcases Nat.lt_or_ge j k with h | h
          · exact HK.out j h
          · obtain rfl : j = k := by omega
            rw [HX.out]; exact hpx⟩
        case measure => simp [intOf]; omega
      · go_wp2_with fail
        refine (HP.out k x hlt' HX.out _ hb).mono ?_
        rintro e w1 ⟨rfl, hb1⟩
        rw [hpx]
        go_wp2_with fail
        go_ret
        exact ⟨ret_int (by rw [idxP_at (by omega) HK.out (by rw [HX.out]; exact hpx)]), below_then hb hb1⟩
    · go_wp2
      go_ret
      exact ⟨ret_int (by rw [idxP_none (fun j hj => HK.out j (by have := HN.out; omega))]), hb⟩
theorem containsFunc_c (F : FuncId) (fn : Func) (hf1 : Try.prog.funcs[F]? = some fn) (hf2 : (fn.name == "runtime.NumGoroutine") = false) (hf3 : fn.body.isNone = false) (caps : Array Value) (p : Int → Bool) (a : Option Addr) (cap n : Nat) (l : List Int) (w : World) (hn : n = l.length) (hA : IC w a l) (hl : n ≤ 1048576)
    (hp : ∀ k x, k < l.length → l[k]! = x → ∀ w', Below w.heap.size w w' → Calls Try.prog F (#[.int .i64 x] ++ caps) w' fun e w'' => e = .returned (.bool (p x)) ∧ Below w'.heap.size w' w'') :
    Calls Try.prog 255 #[.slice a n cap, .func (.func F) #[] caps] w fun e w' => e = .returned (.bool (anyP p l)) ∧ Below w.heap.size w w' := by
  have HN := Lib.hid hn
  have HP := Lib.hid hp
  clear hn hp
  go_enter Try.func255, Try.ntmps255
  go_wp2_with (go_at_call 285; refine (indexFunc_c F fn hf1 hf2 hf3 caps p _ _ _ l _ HN.out hA hl HP.out).mono ?_; rintro e w1 ⟨rfl, hb1⟩)
  go_ret
  exact ⟨ret_bool (by symm; exact anyP_idx p l), hb1⟩
end Go.Proofs.Ytmilpahggceemaa
