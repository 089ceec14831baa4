/- Contracts of the laws' own helpers: sizes, copies, equality, marks of slices of numbers, of rows, of mazes and works. -/
import Derived.Test.YtmilpahggceemaaProg
import Derived.Test.YtmilpahggceemaaKdBase
set_option linter.unusedVariables false
set_option linter.unusedSimpArgs false
namespace Go.Proofs.Ytmilpahggceemaa
open Go.RowKit Go.KD
attribute [local go_sem] later_cell later_frozen
theorem infoI : (Try.prog.info? 3).map (fun i => (i.zero, i.size, i.bytes)) = some (some (.int .i64 0), 1, 8) := by kernel_rfl
theorem madeI (n : Nat) : (madeCells (Value.int .i64 0).cells (n * 1)).toList = ints (List.replicate n 0) := by
  show (madeCells #[.int .i64 0] (n * 1)).toList = _
  rw [toList_madeCells_one, Nat.mul_one]; simp [ints]
theorem szIntS_c (a : Option Addr) (cap n : Nat) (left : Int) (w : World) (h0 : 0 ≤ left) (h1 : left ≤ 1048576) (hn : n ≤ maxLen) : Calls Try.prog 165 #[.slice a n cap, .int .i64 left] w fun e w' =>
    e = .returned (.int .i64 (szP left n)) ∧ w = w' := by
  unfold maxLen at hn
  by_cases h : left - (n : Int) < 0
  · go_enter Try.func165, Try.ntmps165
    go_wp2
    go_ret
    exact ⟨ret_int (by unfold szP; rw [if_pos (by omega)]), rfl⟩
  · go_enter Try.func165, Try.ntmps165
    go_wp2
    go_ret
    exact ⟨ret_int (by unfold szP; rw [if_neg (by omega)]), rfl⟩
theorem szIntA4S_c (a : Option Addr) (cap n : Nat) (left : Int) (w : World) (h0 : 0 ≤ left) (h1 : left ≤ 1048576) (hn : n ≤ maxLen) : Calls Try.prog 164 #[.slice a n cap, .int .i64 left] w fun e w' =>
    e = .returned (.int .i64 (szP left n)) ∧ w = w' := by
  unfold maxLen at hn
  by_cases h : left - (n : Int) < 0
  · go_enter Try.func164, Try.ntmps164
    go_wp2
    go_ret
    exact ⟨ret_int (by unfold szP; rw [if_pos (by omega)]), rfl⟩
  · go_enter Try.func164, Try.ntmps164
    go_wp2
    go_ret
    exact ⟨ret_int (by unfold szP; rw [if_neg (by omega)]), rfl⟩
theorem toIntS_c (a : Option Addr) (cap : Nat) (l : List Int) (w : World) (hA : IC w a l) (hl : l.length ≤ 1048576) : Calls Try.prog 169 #[.slice a l.length cap] w fun e w' =>
    ∃ v, e = .returned v ∧ w'.ownsRow w.heap.size 3 1 v l.length (ints l) ∧ Below w.heap.size w w' := by
  obtain ⟨i0, hi, hz0, hz1, hz2⟩ := info_parts infoI
  have H2 := Lib.hid hz2
  go_enter Try.func169, Try.ntmps169
  go_wp2_with (refine wpList_make_full _ rfl _ _ 24 rfl w.heap.size 3 i0 (.int .i64 0) 1 Try.underlying24 hi hz0 hz1 .i64 .i64 _ _ l.length rfl rfl rfl rfl ?_ ?_ (Nat.le_refl _) ?_; (rw [H2.out]; omega); (unfold maxLen; omega); intro w1 hown hg; rw [madeI] at hown)
  go_loopw [4] (fun i wr => ∃ k : Nat, k ≤ l.length ∧ i = .int .i64 k ∧ Below w.heap.size w wr ∧ wr.ownsRow w.heap.size 3 1 (.slice (some ⟨w.heap.size, 0, none⟩) l.length l.length) l.length (ints (l.take k ++ List.replicate (l.length - k) 0))) (fun i _ => l.length - (intOf i).toNat)
  case atStart => exact ⟨0, Nat.zero_le _, rfl, (Below.refl _ _).grown hg (Nat.le_refl _) (fun k h => by cases h), by simpa using hown⟩
  case round =>
    obtain ⟨k, hk, rfl, hb, hown⟩ := hrel
    clear hg
    have HO := Lib.hid hown
    by_cases hlt : k < l.length
    · obtain ⟨b, off, x, rfl, HX, hbs, c0⟩ := (hA.later hb).at k hlt
      have d0 : wr.cell? ⟨w.heap.size, k, none⟩ = (ints (l.take k ++ List.replicate (l.length - k) 0))[k]? := hown.cellAt _ (by omega)
      obtain ⟨u, hu⟩ : ∃ u, (ints (l.take k ++ List.replicate (l.length - k) 0))[k]? = some u := ⟨_, List.getElem?_eq_getElem (by simp; omega)⟩
      rw [hu] at d0
      have d1 : wr.frozen? ⟨w.heap.size, k, none⟩ = false := hown.frozenAt _
      have st := hown.stored k (.int .i64 x)
      have he : (ints (l.take k ++ List.replicate (l.length - k) 0)).set k (.int .i64 x) = ints (l.take (k+1) ++ List.replicate (l.length - (k+1)) 0) := by
        rw [take_snoc hlt, HX.out, ints, ← List.map_set, List.set_append_right _ _ (by simp; omega)]
        rw [show l.length - k = (l.length - (k+1)) + 1 from by omega, List.replicate_succ]
        have : min k l.length = k := by omega
        simp [ints, this]
      have hb' : Below w.heap.size w (wr.setCell ⟨w.heap.size, k, none⟩ (.int .i64 x)) := hb.setCell (Nat.le_refl _) _
      rw [he] at st
      have HS := Lib.hid st; have HB := Lib.hid hb'
      clear hown hu he hb' st
      go_wp2
      go_roundw
      case rel => exact ⟨k+1, by omega, by go_num, HB.out, HS.out.1⟩
      case measure => simp [intOf]; omega
    · clear hown
      go_wp2
      go_ret
      refine ⟨_, rfl, ?_, hb⟩
      have := HO.out
      obtain rfl : k = l.length := by omega
      simpa using this
set_option maxHeartbeats 1000000 in
theorem toIntA4_c (x y z u : Int) (w : World) : Calls Try.prog 276 #[.agg #[.int .i64 x, .int .i64 y, .int .i64 z, .int .i64 u]] w fun e w' =>
    e = .returned (.agg #[.int .i64 x, .int .i64 y, .int .i64 z, .int .i64 u]) ∧ Below w.heap.size w w' := by
  go_enter Try.func276, Try.ntmps276
  go_wp2
  refine wp_loop_rounds 5 ?_
  rw [rounds_succ]; go_wp2
  rw [rounds_succ]; go_wp2
  rw [rounds_succ]; go_wp2
  rw [rounds_succ]; go_wp2
  rw [rounds_succ]; go_wp2
  exact bodyPost_ret (v := .agg #[.int .i64 x, .int .i64 y, .int .i64 z, .int .i64 u]) (by simp [results, Try.results276, go_sem]) rfl ⟨rfl, by (repeat (first | exact Below.refl _ _ | apply Below.drew | apply below_drewN | (refine Below.setCell ?_ (by first | omega | (simp; done) | (simp; omega) | (dsimp only; omega)) _) | (refine Below.alloc ?_ (by first | omega | (simp; done) | (simp; omega) | (dsimp only; omega)) _)))⟩
theorem infoA4 : (Try.prog.info? 54).map (fun i => (i.zero, i.size, i.bytes)) = some (some (.agg #[.int .i64 0, .int .i64 0, .int .i64 0, .int .i64 0]), 4, 32) := by kernel_rfl
set_option maxHeartbeats 1000000 in
theorem toIntA4S_c (a : Option Addr) (cap : Nat) (l : List D4) (w : World) (hA : D4C w a l) (hl : l.length ≤ 1048576) : Calls Try.prog 168 #[.slice a l.length cap] w fun e w' =>
    ∃ v, e = .returned v ∧ w'.ownsRow w.heap.size 54 4 v l.length (c4 l) ∧ Below w.heap.size w w' := by
  obtain ⟨i0, hi, hz0, hz1, hz2⟩ := info_parts infoA4
  have H2 := Lib.hid hz2
  go_enter Try.func168, Try.ntmps168
  go_wp2_with (refine wpList_make_full _ rfl _ _ 34 rfl w.heap.size 54 i0 (.agg #[.int .i64 0, .int .i64 0, .int .i64 0, .int .i64 0]) 4 Try.underlying34 hi hz0 hz1 .i64 .i64 _ _ l.length rfl rfl rfl rfl ?_ ?_ (Nat.le_refl _) ?_; (rw [H2.out]; omega); (unfold maxLen; omega); intro w1 hown hg; rw [made4] at hown)
  go_loopw [4] (fun i wr => ∃ k : Nat, k ≤ l.length ∧ i = .int .i64 k ∧ Below w.heap.size w wr ∧ wr.ownsRow w.heap.size 54 4 (.slice (some ⟨w.heap.size, 0, none⟩) l.length l.length) l.length (c4 (l.take k ++ List.replicate (l.length - k) (0, 0, 0, 0)))) (fun i _ => l.length - (intOf i).toNat)
  case atStart => exact ⟨0, Nat.zero_le _, rfl, (Below.refl _ _).grown hg (Nat.le_refl _) (fun k h => by cases h), by simpa using hown⟩
  case round =>
    obtain ⟨k, hk, rfl, hb, hown⟩ := hrel
    clear hg
    have HO := Lib.hid hown
    by_cases hlt : k < l.length
    · obtain ⟨b, off, x, y, z, u, rfl, HX, hbs, e0, e1, e2, e3⟩ := (hA.later hb).at k hlt
      clear hown
      have hsz := hb.size
      have hlen : k < (l.take k ++ List.replicate (l.length - k) ((0, 0, 0, 0) : D4)).length := by simp; omega
      go_wp2_with (go_at_call 276; refine (toIntA4_c _ _ _ _ _).mono ?_; rintro e w2 ⟨rfl, hb2⟩; have HO2 := Lib.hid ((Own.of HO.out).later hb2 (Nat.le_refl _)).row; obtain ⟨⟨v0, f0⟩, f1⟩ := own_cell HO2.out (k * 4) (by omega); obtain ⟨⟨v1, f2⟩, f3⟩ := own_cell HO2.out (k * 4 + 1) (by omega); obtain ⟨⟨v2, f4⟩, f5⟩ := own_cell HO2.out (k * 4 + 2) (by omega); obtain ⟨⟨v3, f6⟩, f7⟩ := own_cell HO2.out (k * 4 + 3) (by omega))
      go_roundw
      case rel =>
        have st := own_store4 HO2.out k hlen x y z u
        rw [← HX.out, set_next l _ k hlt] at st
        exact ⟨k+1, by omega, by go_num, by have := (hb.trans (hb2.mono hsz)).grown st.2 (by have := hb2.size; omega) (fun k h => by cases h; exact Nat.le_refl _); exact this, st.1⟩
      case measure => simp [intOf]; omega
    · clear hown
      go_wp2
      go_ret
      refine ⟨_, rfl, ?_, hb⟩
      have := HO.out
      obtain rfl : k = l.length := by omega
      simpa using this
set_option maxHeartbeats 1000000 in
theorem eqIntA4_c (a b c d x y z u : Int) (w : World) : Calls Try.prog 278 #[.agg #[.int .i64 a, .int .i64 b, .int .i64 c, .int .i64 d], .agg #[.int .i64 x, .int .i64 y, .int .i64 z, .int .i64 u]] w fun e w' =>
   e = .returned (.bool (decide ((a, b, c, d) = (x, y, z, u)))) ∧ Below w.heap.size w w' := by
  go_enter Try.func278, Try.ntmps278
  go_wp2
  refine wp_loop_rounds 5 ?_
  (rw [rounds_succ]; go_wp2; go_quiet (fail); go_wp2)
  · go_ret; exact ⟨ret_bool (by symm; rw [decide_eq_false_iff_not]; intro h; simp only [Prod.mk.injEq] at h; simp_all), by (repeat (first | exact Below.refl _ _ | apply Below.drew | apply below_drewN | (refine Below.setCell ?_ (by first | omega | (simp; done) | (simp; omega) | (dsimp only; omega)) _) | (refine Below.alloc ?_ (by first | omega | (simp; done) | (simp; omega) | (dsimp only; omega)) _)))⟩
  all_goals (rw [rounds_succ]; go_wp2; go_quiet (fail); go_wp2)
  · go_ret; exact ⟨ret_bool (by symm; rw [decide_eq_false_iff_not]; intro h; simp only [Prod.mk.injEq] at h; simp_all), by (repeat (first | exact Below.refl _ _ | apply Below.drew | apply below_drewN | (refine Below.setCell ?_ (by first | omega | (simp; done) | (simp; omega) | (dsimp only; omega)) _) | (refine Below.alloc ?_ (by first | omega | (simp; done) | (simp; omega) | (dsimp only; omega)) _)))⟩
  all_goals (rw [rounds_succ]; go_wp2; go_quiet (fail); go_wp2)
  · go_ret; exact ⟨ret_bool (by symm; rw [decide_eq_false_iff_not]; intro h; simp only [Prod.mk.injEq] at h; simp_all), by (repeat (first | exact Below.refl _ _ | apply Below.drew | apply below_drewN | (refine Below.setCell ?_ (by first | omega | (simp; done) | (simp; omega) | (dsimp only; omega)) _) | (refine Below.alloc ?_ (by first | omega | (simp; done) | (simp; omega) | (dsimp only; omega)) _)))⟩
  all_goals (rw [rounds_succ]; go_wp2; go_quiet (fail); go_wp2)
  · go_ret; exact ⟨ret_bool (by symm; rw [decide_eq_false_iff_not]; intro h; simp only [Prod.mk.injEq] at h; simp_all), by (repeat (first | exact Below.refl _ _ | apply Below.drew | apply below_drewN | (refine Below.setCell ?_ (by first | omega | (simp; done) | (simp; omega) | (dsimp only; omega)) _) | (refine Below.alloc ?_ (by first | omega | (simp; done) | (simp; omega) | (dsimp only; omega)) _)))⟩
  all_goals (rw [rounds_succ]; go_wp2)
  · go_ret; exact ⟨ret_bool (by symm; rw [decide_eq_true_iff]; simp_all), by (repeat (first | exact Below.refl _ _ | apply Below.drew | apply below_drewN | (refine Below.setCell ?_ (by first | omega | (simp; done) | (simp; omega) | (dsimp only; omega)) _) | (refine Below.alloc ?_ (by first | omega | (simp; done) | (simp; omega) | (dsimp only; omega)) _)))⟩
set_option maxHeartbeats 1000000 in
theorem eqIntS_c (a a' : Option Addr) (cap cap' : Nat) (l m : List Int) (w : World) (hA : IC w a l) (hA' : IC w a' m) (hl : l.length ≤ 1048576) (hl' : m.length ≤ 1048576) : Calls Try.prog 174 #[.slice a l.length cap, .slice a' m.length cap'] w fun e w' =>
   e = .returned (.bool (decide (l = m))) ∧ Below w.heap.size w w' := by
  by_cases hlen : l.length = m.length
  · have HL := Lib.hid hlen
    have hq : ((l.length : Int) != (m.length : Int)) = false := by simp [hlen]
    clear hlen
    go_enter Try.func174, Try.ntmps174
    go_wp2
    clear hq
    go_loopw [5] (fun i wr => ∃ k : Nat, k ≤ l.length ∧ i = .int .i64 k ∧ Below w.heap.size w wr ∧ Hid (l.take k = m.take k)) (fun i _ => l.length - (intOf i).toNat)
    case atStart => exact ⟨0, Nat.zero_le _, rfl, Below.refl _ _, rfl⟩
    case round =>
      obtain ⟨k, hk, rfl, hb, HEQ⟩ := hrel
      by_cases hlt : k < l.length
      · have hlt' : k < m.length := by have := HL.out; omega
        obtain ⟨b, off, x, rfl, HX, hbs, c0⟩ := (hA.later hb).at k hlt
        obtain ⟨b', off', x', rfl, HY, hbs', d0⟩ := (hA'.later hb).at k hlt'
        have hsz := hb.size
        go_wp2
        go_quiet (fail)
        go_wp2
        · go_ret
          exact ⟨ret_bool (by symm; rw [decide_eq_false_iff_not]; rintro rfl; have := HX.out; rw [HY.out] at this; simp_all), by first | exact hb.trans (hb1.mono hsz) | (apply below_drewN; exact hb)⟩
        · go_roundw
          case rel => exact ⟨k+1, by omega, by go_num, by first | exact hb.trans (hb1.mono hsz) | (apply below_drewN; exact hb), take_succ_eq hlt hlt' HEQ.out (by rw [HX.out, HY.out]; simp_all)⟩
          case measure => simp [intOf]; omega
      · go_wp2
        go_ret
        exact ⟨ret_bool (by symm; rw [decide_eq_true_iff]; have := HEQ.out; rwa [List.take_of_length_le (by omega), List.take_of_length_le (by have := HL.out; omega)] at this), hb⟩
  · have hq : ((l.length : Int) != (m.length : Int)) = true := by simp; omega
    go_enter Try.func174, Try.ntmps174
    go_wp2
    go_ret
    exact ⟨ret_bool (by symm; rw [decide_eq_false_iff_not]; rintro rfl; simp at hlen), Below.refl _ _⟩
set_option maxHeartbeats 1000000 in
theorem eqIntA4S_c (a a' : Option Addr) (cap cap' : Nat) (l m : List D4) (w : World) (hA : D4C w a l) (hA' : D4C w a' m) (hl : l.length ≤ 1048576) (hl' : m.length ≤ 1048576) : Calls Try.prog 173 #[.slice a l.length cap, .slice a' m.length cap'] w fun e w' =>
   e = .returned (.bool (decide (l = m))) ∧ Below w.heap.size w w' := by
  by_cases hlen : l.length = m.length
  · have HL := Lib.hid hlen
    have hq : ((l.length : Int) != (m.length : Int)) = false := by simp [hlen]
    clear hlen
    go_enter Try.func173, Try.ntmps173
    go_wp2
    clear hq
    go_loopw [5] (fun i wr => ∃ k : Nat, k ≤ l.length ∧ i = .int .i64 k ∧ Below w.heap.size w wr ∧ Hid (l.take k = m.take k)) (fun i _ => l.length - (intOf i).toNat)
    case atStart => exact ⟨0, Nat.zero_le _, rfl, Below.refl _ _, rfl⟩
    case round =>
      obtain ⟨k, hk, rfl, hb, HEQ⟩ := hrel
      by_cases hlt : k < l.length
      · have hlt' : k < m.length := by have := HL.out; omega
        obtain ⟨b, off, x, y, z, u, rfl, HX, hbs, c0, c1, c2, c3⟩ := (hA.later hb).at k hlt
        obtain ⟨b', off', x', y', z', u', rfl, HY, hbs', d0, d1, d2, d3⟩ := (hA'.later hb).at k hlt'
        have hsz := hb.size
        go_wp2
        refine wp_region_later wr.heap.size (by kernel_rfl) (by kernel_rfl) ?_
        repeat (first | go_big_quiet_skip | (go_big_quiet_want; go_big_quiet_op; go_big_quiet_on))
        go_big_quiet_want; go_big_quiet_op
        apply Exists.intro
        refine ⟨fun W => ?_, ?_⟩
        · refine Calls.later_of (Nat.le_refl _) (eqIntA4_c _ _ _ _ _ _ _ _ _)
        go_big_quiet_on
        repeat (first | go_big_quiet_skip | (go_big_quiet_want; go_big_quiet_op; go_big_quiet_on))
        refine wpQuiet_nil ?_
        rintro _ ⟨⟨w1, hb1⟩, rfl⟩
        go_wp2
        · go_ret
          exact ⟨ret_bool (by symm; rw [decide_eq_false_iff_not]; rintro rfl; have := HX.out; rw [HY.out] at this; simp_all), by first | exact hb.trans (hb1.mono hsz) | (apply below_drewN; exact hb)⟩
        · go_roundw
          case rel => exact ⟨k+1, by omega, by go_num, by first | exact hb.trans (hb1.mono hsz) | (apply below_drewN; exact hb), take_succ_eq hlt hlt' HEQ.out (by rw [HX.out, HY.out]; simp_all)⟩
          case measure => simp [intOf]; omega
      · go_wp2
        go_ret
        exact ⟨ret_bool (by symm; rw [decide_eq_true_iff]; have := HEQ.out; rwa [List.take_of_length_le (by omega), List.take_of_length_le (by have := HL.out; omega)] at this), hb⟩
  · have hq : ((l.length : Int) != (m.length : Int)) = true := by simp; omega
    go_enter Try.func173, Try.ntmps173
    go_wp2
    go_ret
    exact ⟨ret_bool (by symm; rw [decide_eq_false_iff_not]; rintro rfl; simp at hlen), Below.refl _ _⟩
end Go.Proofs.Ytmilpahggceemaa
