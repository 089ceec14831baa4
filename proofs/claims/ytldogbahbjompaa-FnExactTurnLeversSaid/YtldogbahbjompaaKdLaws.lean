/- Contracts of the laws' own helpers: sizes, copies, equality, marks of slices of numbers, of rows, of mazes and works. -/
import Derived.Test.YtldogbahbjompaaProg
import Derived.Test.YtldogbahbjompaaKdBase
set_option linter.unusedVariables false
set_option linter.unusedSimpArgs false
namespace Go.Proofs.Ytldogbahbjompaa
open Go.RowKit Go.KD
attribute [local go_sem] later_cell later_frozen
theorem infoI : (Try.prog.info? 3).map (fun i => (i.zero, i.size, i.bytes)) = some (some (.int .i64 0), 1, 8) := by kernel_rfl
theorem madeI (n : Nat) : (madeCells (Value.int .i64 0).cells (n * 1)).toList = ints (List.replicate n 0) := by
  show (madeCells #[.int .i64 0] (n * 1)).toList = _
  rw [toList_madeCells_one, Nat.mul_one]; simp [ints]
theorem szIntS_c (a : Option Addr) (cap n : Nat) (left : Int) (w : World) (h0 : 0 ≤ left) (h1 : left ≤ 1048576) (hn : n ≤ maxLen) : Calls Try.prog 42 #[.slice a n cap, .int .i64 left] w fun e w' =>
    e = .returned (.int .i64 (szP left n)) ∧ w = w' := by
  unfold maxLen at hn
  by_cases h : left - (n : Int) < 0
  · go_enter Try.func42, Try.ntmps42
    go_wp2
    go_ret
    exact ⟨ret_int (by unfold szP; rw [if_pos (by omega)]), rfl⟩
  · go_enter Try.func42, Try.ntmps42
    go_wp2
    go_ret
    exact ⟨ret_int (by unfold szP; rw [if_neg (by omega)]), rfl⟩
theorem szIntA3S_c (a : Option Addr) (cap n : Nat) (left : Int) (w : World) (h0 : 0 ≤ left) (h1 : left ≤ 1048576) (hn : n ≤ maxLen) : Calls Try.prog 41 #[.slice a n cap, .int .i64 left] w fun e w' =>
    e = .returned (.int .i64 (szP left n)) ∧ w = w' := by
  unfold maxLen at hn
  by_cases h : left - (n : Int) < 0
  · go_enter Try.func41, Try.ntmps41
    go_wp2
    go_ret
    exact ⟨ret_int (by unfold szP; rw [if_pos (by omega)]), rfl⟩
  · go_enter Try.func41, Try.ntmps41
    go_wp2
    go_ret
    exact ⟨ret_int (by unfold szP; rw [if_neg (by omega)]), rfl⟩
theorem szIntA4S_c (a : Option Addr) (cap n : Nat) (left : Int) (w : World) (h0 : 0 ≤ left) (h1 : left ≤ 1048576) (hn : n ≤ maxLen) : Calls Try.prog 47 #[.slice a n cap, .int .i64 left] w fun e w' =>
    e = .returned (.int .i64 (szP left n)) ∧ w = w' := by
  unfold maxLen at hn
  by_cases h : left - (n : Int) < 0
  · go_enter Try.func47, Try.ntmps47
    go_wp2
    go_ret
    exact ⟨ret_int (by unfold szP; rw [if_pos (by omega)]), rfl⟩
  · go_enter Try.func47, Try.ntmps47
    go_wp2
    go_ret
    exact ⟨ret_int (by unfold szP; rw [if_neg (by omega)]), rfl⟩
theorem toIntS_c (a : Option Addr) (cap : Nat) (l : List Int) (w : World) (hA : IC w a l) (hl : l.length ≤ 1048576) : Calls Try.prog 14 #[.slice a l.length cap] w fun e w' =>
    ∃ v, e = .returned v ∧ w'.ownsRow w.heap.size 3 1 v l.length (ints l) ∧ Below w.heap.size w w' := by
  obtain ⟨i0, hi, hz0, hz1, hz2⟩ := info_parts infoI
  have H2 := Lib.hid hz2
  go_enter Try.func14, Try.ntmps14
  go_wp2_with (refine wpList_make_full _ rfl _ _ 23 rfl w.heap.size 3 i0 (.int .i64 0) 1 Try.underlying23 hi hz0 hz1 .i64 .i64 _ _ l.length rfl rfl rfl rfl ?_ ?_ (Nat.le_refl _) ?_; (rw [H2.out]; omega); (unfold maxLen; omega); intro w1 hown hg; rw [madeI] at hown)
  go_loopw [4] (fun i wr => ∃ k : Nat, k ≤ l.length ∧ i = .int .i64 k ∧ Below w.heap.size w wr ∧ wr.ownsRow w.heap.size 3 1 (.slice (some ⟨w.heap.size, 0, none⟩) l.length l.length) l.length (ints (l.take k ++ List.replicate (l.length - k) 0))) (fun i _ => l.length - (intOf i).toNat)
  case atStart => exact ⟨0, Nat.zero_le _, rfl, (Below.refl _ _).grown hg (Nat.le_refl _) (fun k h => by cases h), by simpa using hown⟩
  case round =>
    obtain ⟨k, hk, rfl, hb, hown⟩ := hrel
    clear hg
    have HO := Lib.hid hown
    by_cases hlt : k < l.length
    · obtain ⟨b, off, x, rfl, HX, hbs, c0⟩ := (hA.later hb).at k hlt
      have d0 : wr.cell? ⟨w.heap.size, k, none⟩ = (ints (l.take k ++ List.replicate (l.length - k) 0))[k]? := hown.cellAt _ (by omega)
      obtain ⟨u, hu⟩ : ∃ u, (ints (l.take k ++ List.replicate (l.length - k) 0))[k]? = some u := ⟨_, List.getElem?_eq_getElem (by simp; omega)⟩
      rw [hu] at d0
      have d1 : wr.frozen? ⟨w.heap.size, k, none⟩ = false := hown.frozenAt _
      have st := hown.stored k (.int .i64 x)
      have he : (ints (l.take k ++ List.replicate (l.length - k) 0)).set k (.int .i64 x) = ints (l.take (k+1) ++ List.replicate (l.length - (k+1)) 0) := by
        rw [take_snoc hlt, HX.out, ints, ← List.map_set, List.set_append_right _ _ (by simp; omega)]
        rw [show l.length - k = (l.length - (k+1)) + 1 from by omega, List.replicate_succ]
        have : min k l.length = k := by omega
        simp [ints, this]
      have hb' : Below w.heap.size w (wr.setCell ⟨w.heap.size, k, none⟩ (.int .i64 x)) := hb.setCell (Nat.le_refl _) _
      rw [he] at st
      have HS := Lib.hid st; have HB := Lib.hid hb'
      clear hown hu he hb' st
      go_wp2
      go_roundw
      case rel => exact ⟨k+1, by omega, by go_num, HB.out, HS.out.1⟩
      case measure => simp [intOf]; omega
    · clear hown
      go_wp2
      go_ret
      refine ⟨_, rfl, ?_, hb⟩
      have := HO.out
      obtain rfl : k = l.length := by omega
      simpa using this
set_option maxHeartbeats 1000000 in
theorem toIntA3_c (x y z : Int) (w : World) : Calls Try.prog 92 #[.agg #[.int .i64 x, .int .i64 y, .int .i64 z]] w fun e w' =>
    e = .returned (.agg #[.int .i64 x, .int .i64 y, .int .i64 z]) ∧ Below w.heap.size w w' := by
  go_enter Try.func92, Try.ntmps92
  go_wp2
  refine wp_loop_rounds 4 ?_
  rw [rounds_succ]; go_wp2
  rw [rounds_succ]; go_wp2
  rw [rounds_succ]; go_wp2
  rw [rounds_succ]; go_wp2
  exact bodyPost_ret (v := .agg #[.int .i64 x, .int .i64 y, .int .i64 z]) (by simp [results, Try.results92, go_sem]) rfl ⟨rfl, by (repeat (first | exact Below.refl _ _ | apply Below.drew | apply below_drewN | (refine Below.setCell ?_ (by first | omega | (simp; done) | (simp; omega) | (dsimp only; omega)) _) | (refine Below.alloc ?_ (by first | omega | (simp; done) | (simp; omega) | (dsimp only; omega)) _)))⟩
set_option maxHeartbeats 1000000 in
theorem toIntA4_c (x y z u : Int) (w : World) : Calls Try.prog 103 #[.agg #[.int .i64 x, .int .i64 y, .int .i64 z, .int .i64 u]] w fun e w' =>
    e = .returned (.agg #[.int .i64 x, .int .i64 y, .int .i64 z, .int .i64 u]) ∧ Below w.heap.size w w' := by
  go_enter Try.func103, Try.ntmps103
  go_wp2
  refine wp_loop_rounds 5 ?_
  rw [rounds_succ]; go_wp2
  rw [rounds_succ]; go_wp2
  rw [rounds_succ]; go_wp2
  rw [rounds_succ]; go_wp2
  rw [rounds_succ]; go_wp2
  exact bodyPost_ret (v := .agg #[.int .i64 x, .int .i64 y, .int .i64 z, .int .i64 u]) (by simp [results, Try.results103, go_sem]) rfl ⟨rfl, by (repeat (first | exact Below.refl _ _ | apply Below.drew | apply below_drewN | (refine Below.setCell ?_ (by first | omega | (simp; done) | (simp; omega) | (dsimp only; omega)) _) | (refine Below.alloc ?_ (by first | omega | (simp; done) | (simp; omega) | (dsimp only; omega)) _)))⟩
theorem infoA3 : (Try.prog.info? 103).map (fun i => (i.zero, i.size, i.bytes)) = some (some (.agg #[.int .i64 0, .int .i64 0, .int .i64 0]), 3, 24) := by kernel_rfl
set_option maxHeartbeats 1000000 in
theorem toIntA3S_c (a : Option Addr) (cap : Nat) (l : List D3) (w : World) (hA : D3C w a l) (hl : l.length ≤ 1048576) : Calls Try.prog 44 #[.slice a l.length cap] w fun e w' =>
    ∃ v, e = .returned v ∧ w'.ownsRow w.heap.size 103 3 v l.length (c3 l) ∧ Below w.heap.size w w' := by
  obtain ⟨i0, hi, hz0, hz1, hz2⟩ := info_parts infoA3
  have H2 := Lib.hid hz2
  go_enter Try.func44, Try.ntmps44
  go_wp2_with (refine wpList_make_full _ rfl _ _ 22 rfl w.heap.size 103 i0 (.agg #[.int .i64 0, .int .i64 0, .int .i64 0]) 3 Try.underlying22 hi hz0 hz1 .i64 .i64 _ _ l.length rfl rfl rfl rfl ?_ ?_ (Nat.le_refl _) ?_; (rw [H2.out]; omega); (unfold maxLen; omega); intro w1 hown hg; rw [made3] at hown)
  go_loopw [4] (fun i wr => ∃ k : Nat, k ≤ l.length ∧ i = .int .i64 k ∧ Below w.heap.size w wr ∧ wr.ownsRow w.heap.size 103 3 (.slice (some ⟨w.heap.size, 0, none⟩) l.length l.length) l.length (c3 (l.take k ++ List.replicate (l.length - k) (0, 0, 0)))) (fun i _ => l.length - (intOf i).toNat)
  case atStart => exact ⟨0, Nat.zero_le _, rfl, (Below.refl _ _).grown hg (Nat.le_refl _) (fun k h => by cases h), by simpa using hown⟩
  case round =>
    obtain ⟨k, hk, rfl, hb, hown⟩ := hrel
    clear hg
    have HO := Lib.hid hown
    by_cases hlt : k < l.length
    · obtain ⟨b, off, x, y, z, rfl, HX, hbs, e0, e1, e2⟩ := (hA.later hb).at k hlt
      clear hown
      have hsz := hb.size
      have hlen : k < (l.take k ++ List.replicate (l.length - k) ((0, 0, 0) : D3)).length := by simp; omega
      go_wp2_with (go_at_call 92; refine (toIntA3_c _ _ _ _).mono ?_; rintro e w2 ⟨rfl, hb2⟩; have HO2 := Lib.hid ((Own.of HO.out).later hb2 (Nat.le_refl _)).row; obtain ⟨⟨v0, f0⟩, f1⟩ := own_cell HO2.out (k * 3) (by omega); obtain ⟨⟨v1, f2⟩, f3⟩ := own_cell HO2.out (k * 3 + 1) (by omega); obtain ⟨⟨v2, f4⟩, f5⟩ := own_cell HO2.out (k * 3 + 2) (by omega))
      go_roundw
      case rel =>
        have st := own_store3 HO2.out k hlen x y z
        rw [← HX.out, set_next l _ k hlt] at st
        exact ⟨k+1, by omega, by go_num, by have := (hb.trans (hb2.mono hsz)).grown st.2 (by have := hb2.size; omega) (fun k h => by cases h; exact Nat.le_refl _); exact this, st.1⟩
      case measure => simp [intOf]; omega
    · clear hown
      go_wp2
      go_ret
      refine ⟨_, rfl, ?_, hb⟩
      have := HO.out
      obtain rfl : k = l.length := by omega
      simpa using this
theorem infoA4 : (Try.prog.info? 88).map (fun i => (i.zero, i.size, i.bytes)) = some (some (.agg #[.int .i64 0, .int .i64 0, .int .i64 0, .int .i64 0]), 4, 32) := by kernel_rfl
set_option maxHeartbeats 1000000 in
theorem toIntA4S_c (a : Option Addr) (cap : Nat) (l : List D4) (w : World) (hA : D4C w a l) (hl : l.length ≤ 1048576) : Calls Try.prog 52 #[.slice a l.length cap] w fun e w' =>
    ∃ v, e = .returned v ∧ w'.ownsRow w.heap.size 88 4 v l.length (c4 l) ∧ Below w.heap.size w w' := by
  obtain ⟨i0, hi, hz0, hz1, hz2⟩ := info_parts infoA4
  have H2 := Lib.hid hz2
  go_enter Try.func52, Try.ntmps52
  go_wp2_with (refine wpList_make_full _ rfl _ _ 35 rfl w.heap.size 88 i0 (.agg #[.int .i64 0, .int .i64 0, .int .i64 0, .int .i64 0]) 4 Try.underlying35 hi hz0 hz1 .i64 .i64 _ _ l.length rfl rfl rfl rfl ?_ ?_ (Nat.le_refl _) ?_; (rw [H2.out]; omega); (unfold maxLen; omega); intro w1 hown hg; rw [made4] at hown)
  go_loopw [4] (fun i wr => ∃ k : Nat, k ≤ l.length ∧ i = .int .i64 k ∧ Below w.heap.size w wr ∧ wr.ownsRow w.heap.size 88 4 (.slice (some ⟨w.heap.size, 0, none⟩) l.length l.length) l.length (c4 (l.take k ++ List.replicate (l.length - k) (0, 0, 0, 0)))) (fun i _ => l.length - (intOf i).toNat)
  case atStart => exact ⟨0, Nat.zero_le _, rfl, (Below.refl _ _).grown hg (Nat.le_refl _) (fun k h => by cases h), by simpa using hown⟩
  case round =>
    obtain ⟨k, hk, rfl, hb, hown⟩ := hrel
    clear hg
    have HO := Lib.hid hown
    by_cases hlt : k < l.length
    · obtain ⟨b, off, x, y, z, u, rfl, HX, hbs, e0, e1, e2, e3⟩ := (hA.later hb).at k hlt
      clear hown
      have hsz := hb.size
      have hlen : k < (l.take k ++ List.replicate (l.length - k) ((0, 0, 0, 0) : D4)).length := by simp; omega
      go_wp2_with (go_at_call 103; refine (toIntA4_c _ _ _ _ _).mono ?_; rintro e w2 ⟨rfl, hb2⟩; have HO2 := Lib.hid ((Own.of HO.out).later hb2 (Nat.le_refl _)).row; obtain ⟨⟨v0, f0⟩, f1⟩ := own_cell HO2.out (k * 4) (by omega); obtain ⟨⟨v1, f2⟩, f3⟩ := own_cell HO2.out (k * 4 + 1) (by omega); obtain ⟨⟨v2, f4⟩, f5⟩ := own_cell HO2.out (k * 4 + 2) (by omega); obtain ⟨⟨v3, f6⟩, f7⟩ := own_cell HO2.out (k * 4 + 3) (by omega))
      go_roundw
      case rel =>
        have st := own_store4 HO2.out k hlen x y z u
        rw [← HX.out, set_next l _ k hlt] at st
        exact ⟨k+1, by omega, by go_num, by have := (hb.trans (hb2.mono hsz)).grown st.2 (by have := hb2.size; omega) (fun k h => by cases h; exact Nat.le_refl _); exact this, st.1⟩
      case measure => simp [intOf]; omega
    · clear hown
      go_wp2
      go_ret
      refine ⟨_, rfl, ?_, hb⟩
      have := HO.out
      obtain rfl : k = l.length := by omega
      simpa using this
set_option maxHeartbeats 1000000 in
theorem markIntS_c (lo cap n E : Nat) (a : Option Addr) (l : List Int) (k0 : Int) (w : World) (hn : n = l.length) (hown : w.ownsRow lo E 1 (.slice a n cap) n (ints l)) (hl : n ≤ 1048576) (h0 : 0 ≤ k0) (h1 : k0 ≤ 1073741824) :
    Calls Try.prog 64 #[.slice a n cap, .int .i64 k0] w fun e w' =>
    e = .returned (.int .i64 (k0 + n)) ∧ w'.ownsRow lo E 1 (.slice a n cap) n (ints (marks n k0)) ∧ w.grownBy w' (Value.slice a n cap).ownBlock := by
  have HN := Lib.hid hn
  have HO := Lib.hid hown
  rcases Nat.eq_zero_or_pos n with h | h
  · subst h
    have hnil : l = [] := by simpa using hn.symm
    clear hn hown
    go_enter Try.func64, Try.ntmps64
    go_wp2
    refine wp_loop_rounds 1 ?_
    rw [rounds_succ]; go_wp2
    go_ret
    exact ⟨ret_int (by simp), by have := HO.out; rw [hnil] at this; simpa [marks] using this, grown_refl _ _⟩
  · obtain ⟨g, rfl⟩ : ∃ g, a = some ⟨g, 0, none⟩ := by
      rcases hown.2 with ⟨_, h2⟩ | ⟨g, _, _, hv, _⟩
      · omega
      · cases hv; exact ⟨g, rfl⟩
    clear hn hown
    go_enter Try.func64, Try.ntmps64
    go_wp2
    go_loopw [1, 5] (fun k i wr => ∃ j : Nat, j ≤ n ∧ i = .int .i64 j ∧ k = .int .i64 (k0 + j) ∧ w.grownBy wr (some g) ∧ wr.ownsRow lo E 1 (.slice (some ⟨g, 0, none⟩) n cap) n (ints (marks j k0 ++ l.drop j))) (fun _ i _ => n - (intOf i).toNat)
    case atStart => exact ⟨0, Nat.zero_le _, rfl, by simp, grown_refl _ _, by simpa [marks] using HO.out⟩
    case round =>
      obtain ⟨j, hj, rfl, rfl, hg, ho⟩ := hrel
      have HG := Lib.hid hg; have HO1 := Lib.hid ho
      clear hg ho
      by_cases hlt : j < n
      · obtain ⟨⟨v0, f0⟩, f1⟩ := own_cell HO1.out j (by omega)
        go_wp2
        go_roundw
        case rel =>
          have st := own_store1 HO1.out j (k0 + j)
          rw [marks_next l k0 j (by have := HN.out; omega)] at st
          exact ⟨j+1, by omega, by go_num, by first | go_num | (congr 1; omega), HG.out.trans st.2, st.1⟩
        case measure => simp [intOf]; omega
      · obtain rfl : j = n := by omega
        go_wp2
        go_ret
        exact ⟨rfl, by have := HO1.out; rwa [List.drop_of_length_le (by have := HN.out; omega), List.append_nil] at this, HG.out⟩
theorem heldIntS_c (a : Option Addr) (cap n : Nat) (k0 : Int) (w : World) (hA : IC w a (marks n k0)) (hl : n ≤ 1048576) (h0 : 0 ≤ k0) (h1 : k0 ≤ 1073741824) : Calls Try.prog 65 #[.slice a n cap, .int .i64 k0] w fun e w' =>
    e = .returned (.int .i64 (k0 + n)) ∧ w = w' := by
  go_enter Try.func65, Try.ntmps65
  go_wp2
  go_loop [1, 5] (fun k i => ∃ j : Nat, j ≤ n ∧ i = .int .i64 j ∧ k = .int .i64 (k0 + j)) (fun _ i => n - (intOf i).toNat)
  case atStart => exact ⟨0, Nat.zero_le _, rfl, by simp⟩
  case round =>
    obtain ⟨j, hj, rfl, rfl⟩ := hrel
    by_cases hlt : j < n
    · obtain ⟨b, off, x, rfl, HX, hbs, e0⟩ := hA.at j (by simpa using hlt)
      obtain rfl : x = k0 + j := by have := HX.out; rwa [marks_at _ _ _ hlt, eq_comm] at this
      go_wp2
      go_round
      case rel => exact ⟨j+1, by omega, by go_num, by first | go_num | (congr 1; omega)⟩
      case measure => simp [intOf]; omega
    · obtain rfl : j = n := by omega
      go_wp2
      go_ret
      exact ⟨rfl, rfl⟩
set_option maxHeartbeats 1000000 in
theorem eqIntA3_c (a b c x y z : Int) (w : World) : Calls Try.prog 96 #[.agg #[.int .i64 a, .int .i64 b, .int .i64 c], .agg #[.int .i64 x, .int .i64 y, .int .i64 z]] w fun e w' =>
   e = .returned (.bool (decide ((a, b, c) = (x, y, z)))) ∧ Below w.heap.size w w' := by
  go_enter Try.func96, Try.ntmps96
  go_wp2
  refine wp_loop_rounds 4 ?_
  (rw [rounds_succ]; go_wp2; go_quiet (fail); go_wp2)
  · go_ret; exact ⟨ret_bool (by symm; rw [decide_eq_false_iff_not]; intro h; simp only [Prod.mk.injEq] at h; simp_all), by (repeat (first | exact Below.refl _ _ | apply Below.drew | apply below_drewN | (refine Below.setCell ?_ (by first | omega | (simp; done) | (simp; omega) | (dsimp only; omega)) _) | (refine Below.alloc ?_ (by first | omega | (simp; done) | (simp; omega) | (dsimp only; omega)) _)))⟩
  all_goals (rw [rounds_succ]; go_wp2; go_quiet (fail); go_wp2)
  · go_ret; exact ⟨ret_bool (by symm; rw [decide_eq_false_iff_not]; intro h; simp only [Prod.mk.injEq] at h; simp_all), by (repeat (first | exact Below.refl _ _ | apply Below.drew | apply below_drewN | (refine Below.setCell ?_ (by first | omega | (simp; done) | (simp; omega) | (dsimp only; omega)) _) | (refine Below.alloc ?_ (by first | omega | (simp; done) | (simp; omega) | (dsimp only; omega)) _)))⟩
  all_goals (rw [rounds_succ]; go_wp2; go_quiet (fail); go_wp2)
  · go_ret; exact ⟨ret_bool (by symm; rw [decide_eq_false_iff_not]; intro h; simp only [Prod.mk.injEq] at h; simp_all), by (repeat (first | exact Below.refl _ _ | apply Below.drew | apply below_drewN | (refine Below.setCell ?_ (by first | omega | (simp; done) | (simp; omega) | (dsimp only; omega)) _) | (refine Below.alloc ?_ (by first | omega | (simp; done) | (simp; omega) | (dsimp only; omega)) _)))⟩
  all_goals (rw [rounds_succ]; go_wp2)
  · go_ret; exact ⟨ret_bool (by symm; rw [decide_eq_true_iff]; simp_all), by (repeat (first | exact Below.refl _ _ | apply Below.drew | apply below_drewN | (refine Below.setCell ?_ (by first | omega | (simp; done) | (simp; omega) | (dsimp only; omega)) _) | (refine Below.alloc ?_ (by first | omega | (simp; done) | (simp; omega) | (dsimp only; omega)) _)))⟩
set_option maxHeartbeats 1000000 in
theorem eqIntA4_c (a b c d x y z u : Int) (w : World) : Calls Try.prog 110 #[.agg #[.int .i64 a, .int .i64 b, .int .i64 c, .int .i64 d], .agg #[.int .i64 x, .int .i64 y, .int .i64 z, .int .i64 u]] w fun e w' =>
   e = .returned (.bool (decide ((a, b, c, d) = (x, y, z, u)))) ∧ Below w.heap.size w w' := by
  go_enter Try.func110, Try.ntmps110
  go_wp2
  refine wp_loop_rounds 5 ?_
  (rw [rounds_succ]; go_wp2; go_quiet (fail); go_wp2)
  · go_ret; exact ⟨ret_bool (by symm; rw [decide_eq_false_iff_not]; intro h; simp only [Prod.mk.injEq] at h; simp_all), by (repeat (first | exact Below.refl _ _ | apply Below.drew | apply below_drewN | (refine Below.setCell ?_ (by first | omega | (simp; done) | (simp; omega) | (dsimp only; omega)) _) | (refine Below.alloc ?_ (by first | omega | (simp; done) | (simp; omega) | (dsimp only; omega)) _)))⟩
  all_goals (rw [rounds_succ]; go_wp2; go_quiet (fail); go_wp2)
  · go_ret; exact ⟨ret_bool (by symm; rw [decide_eq_false_iff_not]; intro h; simp only [Prod.mk.injEq] at h; simp_all), by (repeat (first | exact Below.refl _ _ | apply Below.drew | apply below_drewN | (refine Below.setCell ?_ (by first | omega | (simp; done) | (simp; omega) | (dsimp only; omega)) _) | (refine Below.alloc ?_ (by first | omega | (simp; done) | (simp; omega) | (dsimp only; omega)) _)))⟩
  all_goals (rw [rounds_succ]; go_wp2; go_quiet (fail); go_wp2)
  · go_ret; exact ⟨ret_bool (by symm; rw [decide_eq_false_iff_not]; intro h; simp only [Prod.mk.injEq] at h; simp_all), by (repeat (first | exact Below.refl _ _ | apply Below.drew | apply below_drewN | (refine Below.setCell ?_ (by first | omega | (simp; done) | (simp; omega) | (dsimp only; omega)) _) | (refine Below.alloc ?_ (by first | omega | (simp; done) | (simp; omega) | (dsimp only; omega)) _)))⟩
  all_goals (rw [rounds_succ]; go_wp2; go_quiet (fail); go_wp2)
  · go_ret; exact ⟨ret_bool (by symm; rw [decide_eq_false_iff_not]; intro h; simp only [Prod.mk.injEq] at h; simp_all), by (repeat (first | exact Below.refl _ _ | apply Below.drew | apply below_drewN | (refine Below.setCell ?_ (by first | omega | (simp; done) | (simp; omega) | (dsimp only; omega)) _) | (refine Below.alloc ?_ (by first | omega | (simp; done) | (simp; omega) | (dsimp only; omega)) _)))⟩
  all_goals (rw [rounds_succ]; go_wp2)
  · go_ret; exact ⟨ret_bool (by symm; rw [decide_eq_true_iff]; simp_all), by (repeat (first | exact Below.refl _ _ | apply Below.drew | apply below_drewN | (refine Below.setCell ?_ (by first | omega | (simp; done) | (simp; omega) | (dsimp only; omega)) _) | (refine Below.alloc ?_ (by first | omega | (simp; done) | (simp; omega) | (dsimp only; omega)) _)))⟩
set_option maxHeartbeats 1000000 in
theorem eqIntS_c (a a' : Option Addr) (cap cap' : Nat) (l m : List Int) (w : World) (hA : IC w a l) (hA' : IC w a' m) (hl : l.length ≤ 1048576) (hl' : m.length ≤ 1048576) : Calls Try.prog 17 #[.slice a l.length cap, .slice a' m.length cap'] w fun e w' =>
   e = .returned (.bool (decide (l = m))) ∧ Below w.heap.size w w' := by
  by_cases hlen : l.length = m.length
  · have HL := Lib.hid hlen
    have hq : ((l.length : Int) != (m.length : Int)) = false := by simp [hlen]
    clear hlen
    go_enter Try.func17, Try.ntmps17
    go_wp2
    clear hq
    go_loopw [5] (fun i wr => ∃ k : Nat, k ≤ l.length ∧ i = .int .i64 k ∧ Below w.heap.size w wr ∧ Hid (l.take k = m.take k)) (fun i _ => l.length - (intOf i).toNat)
    case atStart => exact ⟨0, Nat.zero_le _, rfl, Below.refl _ _, rfl⟩
    case round =>
      obtain ⟨k, hk, rfl, hb, HEQ⟩ := hrel
      by_cases hlt : k < l.length
      · have hlt' : k < m.length := by have := HL.out; omega
        obtain ⟨b, off, x, rfl, HX, hbs, c0⟩ := (hA.later hb).at k hlt
        obtain ⟨b', off', x', rfl, HY, hbs', d0⟩ := (hA'.later hb).at k hlt'
        have hsz := hb.size
        go_wp2
        go_quiet (fail)
        go_wp2
        · go_ret
          exact ⟨ret_bool (by symm; rw [decide_eq_false_iff_not]; rintro rfl; have := HX.out; rw [HY.out] at this; simp_all), by first | exact hb.trans (hb1.mono hsz) | (apply below_drewN; exact hb)⟩
        · go_roundw
          case rel => exact ⟨k+1, by omega, by go_num, by first | exact hb.trans (hb1.mono hsz) | (apply below_drewN; exact hb), take_succ_eq hlt hlt' HEQ.out (by rw [HX.out, HY.out]; simp_all)⟩
          case measure => simp [intOf]; omega
      · go_wp2
        go_ret
        exact ⟨ret_bool (by symm; rw [decide_eq_true_iff]; have := HEQ.out; rwa [List.take_of_length_le (by omega), List.take_of_length_le (by have := HL.out; omega)] at this), hb⟩
  · have hq : ((l.length : Int) != (m.length : Int)) = true := by simp; omega
    go_enter Try.func17, Try.ntmps17
    go_wp2
    go_ret
    exact ⟨ret_bool (by symm; rw [decide_eq_false_iff_not]; rintro rfl; simp at hlen), Below.refl _ _⟩
set_option maxHeartbeats 1000000 in
theorem eqIntA3S_c (a a' : Option Addr) (cap cap' : Nat) (l m : List D3) (w : World) (hA : D3C w a l) (hA' : D3C w a' m) (hl : l.length ≤ 1048576) (hl' : m.length ≤ 1048576) : Calls Try.prog 46 #[.slice a l.length cap, .slice a' m.length cap'] w fun e w' =>
   e = .returned (.bool (decide (l = m))) ∧ Below w.heap.size w w' := by
  by_cases hlen : l.length = m.length
  · have HL := Lib.hid hlen
    have hq : ((l.length : Int) != (m.length : Int)) = false := by simp [hlen]
    clear hlen
    go_enter Try.func46, Try.ntmps46
    go_wp2
    clear hq
    go_loopw [5] (fun i wr => ∃ k : Nat, k ≤ l.length ∧ i = .int .i64 k ∧ Below w.heap.size w wr ∧ Hid (l.take k = m.take k)) (fun i _ => l.length - (intOf i).toNat)
    case atStart => exact ⟨0, Nat.zero_le _, rfl, Below.refl _ _, rfl⟩
    case round =>
      obtain ⟨k, hk, rfl, hb, HEQ⟩ := hrel
      by_cases hlt : k < l.length
      · have hlt' : k < m.length := by have := HL.out; omega
        obtain ⟨b, off, x, y, z, rfl, HX, hbs, c0, c1, c2⟩ := (hA.later hb).at k hlt
        obtain ⟨b', off', x', y', z', rfl, HY, hbs', d0, d1, d2⟩ := (hA'.later hb).at k hlt'
        have hsz := hb.size
        go_wp2
        refine wp_region_later wr.heap.size (by kernel_rfl) (by kernel_rfl) ?_
        repeat (first | go_big_quiet_skip | (go_big_quiet_want; go_big_quiet_op; go_big_quiet_on))
        go_big_quiet_want; go_big_quiet_op
        apply Exists.intro
        refine ⟨fun W => ?_, ?_⟩
        · refine Calls.later_of (Nat.le_refl _) (eqIntA3_c _ _ _ _ _ _ _)
        go_big_quiet_on
        repeat (first | go_big_quiet_skip | (go_big_quiet_want; go_big_quiet_op; go_big_quiet_on))
        refine wpQuiet_nil ?_
        rintro _ ⟨⟨w1, hb1⟩, rfl⟩
        go_wp2
        · go_ret
          exact ⟨ret_bool (by symm; rw [decide_eq_false_iff_not]; rintro rfl; have := HX.out; rw [HY.out] at this; simp_all), by first | exact hb.trans (hb1.mono hsz) | (apply below_drewN; exact hb)⟩
        · go_roundw
          case rel => exact ⟨k+1, by omega, by go_num, by first | exact hb.trans (hb1.mono hsz) | (apply below_drewN; exact hb), take_succ_eq hlt hlt' HEQ.out (by rw [HX.out, HY.out]; simp_all)⟩
          case measure => simp [intOf]; omega
      · go_wp2
        go_ret
        exact ⟨ret_bool (by symm; rw [decide_eq_true_iff]; have := HEQ.out; rwa [List.take_of_length_le (by omega), List.take_of_length_le (by have := HL.out; omega)] at this), hb⟩
  · have hq : ((l.length : Int) != (m.length : Int)) = true := by simp; omega
    go_enter Try.func46, Try.ntmps46
    go_wp2
    go_ret
    exact ⟨ret_bool (by symm; rw [decide_eq_false_iff_not]; rintro rfl; simp at hlen), Below.refl _ _⟩
set_option maxHeartbeats 1000000 in
theorem eqIntA4S_c (a a' : Option Addr) (cap cap' : Nat) (l m : List D4) (w : World) (hA : D4C w a l) (hA' : D4C w a' m) (hl : l.length ≤ 1048576) (hl' : m.length ≤ 1048576) : Calls Try.prog 58 #[.slice a l.length cap, .slice a' m.length cap'] w fun e w' =>
   e = .returned (.bool (decide (l = m))) ∧ Below w.heap.size w w' := by
  by_cases hlen : l.length = m.length
  · have HL := Lib.hid hlen
    have hq : ((l.length : Int) != (m.length : Int)) = false := by simp [hlen]
    clear hlen
    go_enter Try.func58, Try.ntmps58
    go_wp2
    clear hq
    go_loopw [5] (fun i wr => ∃ k : Nat, k ≤ l.length ∧ i = .int .i64 k ∧ Below w.heap.size w wr ∧ Hid (l.take k = m.take k)) (fun i _ => l.length - (intOf i).toNat)
    case atStart => exact ⟨0, Nat.zero_le _, rfl, Below.refl _ _, rfl⟩
    case round =>
      obtain ⟨k, hk, rfl, hb, HEQ⟩ := hrel
      by_cases hlt : k < l.length
      · have hlt' : k < m.length := by have := HL.out; omega
        obtain ⟨b, off, x, y, z, u, rfl, HX, hbs, c0, c1, c2, c3⟩ := (hA.later hb).at k hlt
        obtain ⟨b', off', x', y', z', u', rfl, HY, hbs', d0, d1, d2, d3⟩ := (hA'.later hb).at k hlt'
        have hsz := hb.size
        go_wp2
        refine wp_region_later wr.heap.size (by kernel_rfl) (by kernel_rfl) ?_
        repeat (first | go_big_quiet_skip | (go_big_quiet_want; go_big_quiet_op; go_big_quiet_on))
        go_big_quiet_want; go_big_quiet_op
        apply Exists.intro
        refine ⟨fun W => ?_, ?_⟩
        · refine Calls.later_of (Nat.le_refl _) (eqIntA4_c _ _ _ _ _ _ _ _ _)
        go_big_quiet_on
        repeat (first | go_big_quiet_skip | (go_big_quiet_want; go_big_quiet_op; go_big_quiet_on))
        refine wpQuiet_nil ?_
        rintro _ ⟨⟨w1, hb1⟩, rfl⟩
        go_wp2
        · go_ret
          exact ⟨ret_bool (by symm; rw [decide_eq_false_iff_not]; rintro rfl; have := HX.out; rw [HY.out] at this; simp_all), by first | exact hb.trans (hb1.mono hsz) | (apply below_drewN; exact hb)⟩
        · go_roundw
          case rel => exact ⟨k+1, by omega, by go_num, by first | exact hb.trans (hb1.mono hsz) | (apply below_drewN; exact hb), take_succ_eq hlt hlt' HEQ.out (by rw [HX.out, HY.out]; simp_all)⟩
          case measure => simp [intOf]; omega
      · go_wp2
        go_ret
        exact ⟨ret_bool (by symm; rw [decide_eq_true_iff]; have := HEQ.out; rwa [List.take_of_length_le (by omega), List.take_of_length_le (by have := HL.out; omega)] at this), hb⟩
  · have hq : ((l.length : Int) != (m.length : Int)) = true := by simp; omega
    go_enter Try.func58, Try.ntmps58
    go_wp2
    go_ret
    exact ⟨ret_bool (by symm; rw [decide_eq_false_iff_not]; rintro rfl; simp at hlen), Below.refl _ _⟩
end Go.Proofs.Ytldogbahbjompaa
