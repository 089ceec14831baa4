/- Contracts of the functions on works: validity. -/
import Derived.Test.YtmilpahggceemaaKdLaws2
import Derived.Test.YtmilpahggceemaaKdPure
set_option linter.unusedVariables false
set_option linter.unusedSimpArgs false
namespace Go.Proofs.Ytmilpahggceemaa
open Go.RowKit Go.KD
attribute [local go_sem] later_cell later_frozen
theorem l1In_c (x a b : Int) (w : World) : Calls Try.prog 147 #[.int .i64 x, .int .i64 a, .int .i64 b] w fun e w' => e = .returned (.bool (inB x a b)) ∧ w = w' := by
  go_enter Try.func147, Try.ntmps147
  go_wp2
  all_goals (go_ret; exact ⟨ret_bool (by simp [inB]; omega), rfl⟩)
theorem l2Set_c (x : Int) (w : World) : Calls Try.prog 133 #[.int .i64 x] w fun e w' => e = .returned (.bool (setB x)) ∧ w = w' := by
  go_enter Try.func133, Try.ntmps133
  go_wp2_with (go_at_call 147; refine (l1In_c _ _ _ _).mono ?_; rintro e w' ⟨rfl, rfl⟩)
  go_ret
  exact ⟨ret_bool rfl, rfl⟩
theorem within_c (x a b : Int) (w : World) : Calls Try.prog 145 #[.int .i64 x, .int .i64 a, .int .i64 b] w fun e w' => e = .returned (.bool (inB x a b)) ∧ w = w' := by
  go_enter Try.func145, Try.ntmps145
  go_wp2
  all_goals (go_ret; exact ⟨ret_bool (by simp [inB]; omega), rfl⟩)
theorem isSet_c (x : Int) (w : World) : Calls Try.prog 137 #[.int .i64 x] w fun e w' => e = .returned (.bool (setB x)) ∧ w = w' := by
  go_enter Try.func137, Try.ntmps137
  go_wp2_with (go_at_call 145; refine (within_c _ _ _ _).mono ?_; rintro e w' ⟨rfl, rfl⟩)
  go_ret
  exact ⟨ret_bool rfl, rfl⟩
set_option maxHeartbeats 1000000 in
theorem l8Before_c (a b c d x y z u : Int) (w : World) : Calls Try.prog 266 #[.agg #[.int .i64 a, .int .i64 b, .int .i64 c, .int .i64 d], .agg #[.int .i64 x, .int .i64 y, .int .i64 z, .int .i64 u]] w fun e w' =>
   e = .returned (.bool (lt4 (a, b, c, d) (x, y, z, u))) ∧ Below w.heap.size w w' := by
  go_enter Try.func266, Try.ntmps266
  go_wp2
  refine wp_loop_rounds 5 ?_
  (rw [rounds_succ]; go_wp2; go_quiet (fail); go_wp2)
  · go_quiet (fail); go_wp2; go_ret; exact ⟨ret_bool (by simp_all [lt4]), by (repeat (first | exact Below.refl _ _ | apply Below.drew | apply below_drewN | (refine Below.setCell ?_ (by first | omega | (simp; done) | (simp; omega) | (dsimp only; omega)) _) | (refine Below.alloc ?_ (by first | omega | (simp; done) | (simp; omega) | (dsimp only; omega)) _)))⟩
  all_goals (rw [rounds_succ]; go_wp2; go_quiet (fail); go_wp2)
  · go_quiet (fail); go_wp2; go_ret; exact ⟨ret_bool (by simp_all [lt4]), by (repeat (first | exact Below.refl _ _ | apply Below.drew | apply below_drewN | (refine Below.setCell ?_ (by first | omega | (simp; done) | (simp; omega) | (dsimp only; omega)) _) | (refine Below.alloc ?_ (by first | omega | (simp; done) | (simp; omega) | (dsimp only; omega)) _)))⟩
  all_goals (rw [rounds_succ]; go_wp2; go_quiet (fail); go_wp2)
  · go_quiet (fail); go_wp2; go_ret; exact ⟨ret_bool (by simp_all [lt4]), by (repeat (first | exact Below.refl _ _ | apply Below.drew | apply below_drewN | (refine Below.setCell ?_ (by first | omega | (simp; done) | (simp; omega) | (dsimp only; omega)) _) | (refine Below.alloc ?_ (by first | omega | (simp; done) | (simp; omega) | (dsimp only; omega)) _)))⟩
  all_goals (rw [rounds_succ]; go_wp2; go_quiet (fail); go_wp2)
  · go_quiet (fail); go_wp2; go_ret; exact ⟨ret_bool (by simp_all [lt4]), by (repeat (first | exact Below.refl _ _ | apply Below.drew | apply below_drewN | (refine Below.setCell ?_ (by first | omega | (simp; done) | (simp; omega) | (dsimp only; omega)) _) | (refine Below.alloc ?_ (by first | omega | (simp; done) | (simp; omega) | (dsimp only; omega)) _)))⟩
  all_goals (rw [rounds_succ]; go_wp2)
  · go_ret; exact ⟨ret_bool (by simp_all [lt4]), by (repeat (first | exact Below.refl _ _ | apply Below.drew | apply below_drewN | (refine Below.setCell ?_ (by first | omega | (simp; done) | (simp; omega) | (dsimp only; omega)) _) | (refine Below.alloc ?_ (by first | omega | (simp; done) | (simp; omega) | (dsimp only; omega)) _)))⟩
set_option maxHeartbeats 1000000 in
theorem l2Before_c (a b c x y z : Int) (w : World) : Calls Try.prog 295 #[.agg #[.int .i64 a, .int .i64 b, .int .i64 c], .agg #[.int .i64 x, .int .i64 y, .int .i64 z]] w fun e w' =>
   e = .returned (.bool (lt3 (a, b, c) (x, y, z))) ∧ Below w.heap.size w w' := by
  go_enter Try.func295, Try.ntmps295
  go_wp2
  refine wp_loop_rounds 4 ?_
  (rw [rounds_succ]; go_wp2; go_quiet (fail); go_wp2)
  · go_quiet (fail); go_wp2; go_ret; exact ⟨ret_bool (by simp_all [lt3]), by (repeat (first | exact Below.refl _ _ | apply Below.drew | apply below_drewN | (refine Below.setCell ?_ (by first | omega | (simp; done) | (simp; omega) | (dsimp only; omega)) _) | (refine Below.alloc ?_ (by first | omega | (simp; done) | (simp; omega) | (dsimp only; omega)) _)))⟩
  all_goals (rw [rounds_succ]; go_wp2; go_quiet (fail); go_wp2)
  · go_quiet (fail); go_wp2; go_ret; exact ⟨ret_bool (by simp_all [lt3]), by (repeat (first | exact Below.refl _ _ | apply Below.drew | apply below_drewN | (refine Below.setCell ?_ (by first | omega | (simp; done) | (simp; omega) | (dsimp only; omega)) _) | (refine Below.alloc ?_ (by first | omega | (simp; done) | (simp; omega) | (dsimp only; omega)) _)))⟩
  all_goals (rw [rounds_succ]; go_wp2; go_quiet (fail); go_wp2)
  · go_quiet (fail); go_wp2; go_ret; exact ⟨ret_bool (by simp_all [lt3]), by (repeat (first | exact Below.refl _ _ | apply Below.drew | apply below_drewN | (refine Below.setCell ?_ (by first | omega | (simp; done) | (simp; omega) | (dsimp only; omega)) _) | (refine Below.alloc ?_ (by first | omega | (simp; done) | (simp; omega) | (dsimp only; omega)) _)))⟩
  all_goals (rw [rounds_succ]; go_wp2)
  · go_ret; exact ⟨ret_bool (by simp_all [lt3]), by (repeat (first | exact Below.refl _ _ | apply Below.drew | apply below_drewN | (refine Below.setCell ?_ (by first | omega | (simp; done) | (simp; omega) | (dsimp only; omega)) _) | (refine Below.alloc ?_ (by first | omega | (simp; done) | (simp; omega) | (dsimp only; omega)) _)))⟩
theorem isNaN_c (a : Int) (w : World) : Calls Try.prog 317 #[.int .i64 a] w fun e w' => e = .returned (.bool false) ∧ w = w' := by
  go_enter Try.func317, Try.ntmps317
  go_wp2
  go_ret
  exact ⟨ret_bool (by simp), rfl⟩
theorem compare_c (a b : Int) (w : World) : Calls Try.prog 274 #[.int .i64 a, .int .i64 b] w fun e w' => e = .returned (.int .i64 (cmpI a b)) ∧ w' = w := by
  go_enter Try.func274, Try.ntmps274
  go_wp2_with (go_at_call 317; refine (isNaN_c _ _).mono ?_; rintro e w' ⟨rfl, rfl⟩)
  all_goals (go_ret; exact ⟨ret_int (by unfold cmpI; split <;> (try split) <;> omega), rfl⟩)
theorem or_c (a : Option Addr) (cap n : Nat) (l : List Int) (w : World) (hn : n = l.length) (hA : IC w a l) (hl : n ≤ 1000) : Calls Try.prog 273 #[.slice a n cap] w fun e w' => e = .returned (.int .i64 (orI l)) ∧ w = w' := by
  have HN := Lib.hid hn
  clear hn
  go_enter Try.func273, Try.ntmps273
  go_wp2
  go_loop [5, 8] (fun _ i => ∃ k : Nat, k ≤ n ∧ i = .int .i64 k ∧ Hid (orI l = orI (l.drop k))) (fun _ i => n - (intOf i).toNat)
  case atStart => exact ⟨0, Nat.zero_le _, rfl, rfl⟩
  case round =>
    obtain ⟨k, hk, rfl, HK⟩ := hrel
    by_cases hlt : k < n
    · have hlt' : k < l.length := by rw [← HN.out]; exact hlt
      obtain ⟨b, off, x, rfl, HX, hbs, e0⟩ := hA.at k hlt'
      have HD : Hid (l.drop k = x :: l.drop (k + 1)) := by
        have := HX.out; rw [getElem!_pos l k hlt'] at this
        show _ = _
        rw [List.drop_eq_getElem_cons hlt', this]
      by_cases h0 : x = 0
      · subst h0
        go_wp2
        go_round
        case rel => exact ⟨k+1, by omega, by go_num, by have := HK.out; rw [HD.out] at this; simpa [orI, Hid] using this⟩
        case measure => simp [intOf]; omega
      · have g0 : (x != 0) = true := by simpa using h0
        go_wp2
        go_ret
        exact ⟨ret_int (by rw [HK.out, HD.out]; simp [orI, h0]), rfl⟩
    · go_wp2
      go_ret
      exact ⟨ret_int (by rw [HK.out, List.drop_of_length_le (by have := HN.out; omega)]; rfl), rfl⟩
end Go.Proofs.Ytmilpahggceemaa
