/- Small functions of the laws over bytes: size of the bytes, equality of lists. Contract of l1Put. Acts of works: plain words, and contracts of isVisitOf, l8Visit, behind, l8Do, acts. Contract of l8Acts. Contracts of slices.Concat (two lists) and impl.acts. Contracts of impl.acts, impl.behind, spec.l8Do. ActsAt. -/
import Derived.Test.YtmilpahggceemaaKpFp0
import Derived.Test.YtmilpahggceemaaKpFp1
import Derived.Test.YtmilpahggceemaaKpFp3
import Derived.Test.YtmilpahggceemaaKpFp2
import Derived.Lib.AppendZerosOnto
import Derived.Lib.SliceRun
import Derived.IntWalk
set_option linter.unusedVariables false
set_option linter.unusedSimpArgs false
namespace Go.KD
open Go.RowKit
/-- A list that a draw of a law gives. -/
def DListP (k : Nat) (w : World) (e : Ending) (w' : World) : Prop := ∃ a c, ∃ L : List Int, e = .returned (.slice a L.length c) ∧ IC w' a L ∧ L.length ≤ k ∧ (∀ x ∈ L, wfI x) ∧ Below w.heap.size w w'
theorem cu_start {w : World} {a : Option Addr} {n cap : Nat} {T : TypeId} (hb : BC w a n) (hn : n ≤ 65536) : Cu w.heap.size 0 (w.alloc (.cells #[.slice a n cap, .int .i64 0, .int .u64 0] T)) := by
  refine ⟨⟨a, n, cap, 0, 0, ?_, ?_, ?_, Nat.le_refl _, hn, fun k hk => ?_⟩, fun o ho => ?_, by simp⟩
  · simp [go_sem]
  · simp [go_sem]
  · simp [go_sem]
  · obtain ⟨b, off, x, e1, e2, e3, e4⟩ := hb k hk
    exact ⟨b, off, x, e1, e2, e3, by rw [World.cell?_alloc_lt _ _ _ e2]; exact e4⟩
  · simp [go_sem]
theorem CuW.start {w w' : World} {o : Obj} {n : Nat} (h : CuW w.heap.size n (w.alloc o) w') : Below w.heap.size w w' := by
  have h1 : Below w.heap.size (w.alloc o) w' := h.ch.below (Nat.le_refl _) (by simp)
  exact ((Below.refl _ _).alloc (Nat.le_refl _) o).trans h1
end Go.KD
namespace Go.Proofs.Ytmilpahggceemaa
open Go.RowKit Go.KD
attribute [local go_sem] later_cell later_frozen
set_option maxHeartbeats 1000000 in
theorem rInts_c (a a' : Option Addr) (cap cap' : Nat) (l m : List Int) (w : World) (hA : IC w a l) (hA' : IC w a' m) (hl : l.length ≤ 1048576) (hl' : m.length ≤ 1048576) : Calls Try.prog 16 #[.slice a l.length cap, .slice a' m.length cap'] w fun e w' =>
   e = .returned (.bool (decide (l = m))) ∧ Below w.heap.size w w' := by
  by_cases hlen : l.length = m.length
  · have HL := Lib.hid hlen
    have hq : ((l.length : Int) != (m.length : Int)) = false := by simp [hlen]
    clear hlen
    go_enter Try.func16, Try.ntmps16
    go_wp2
    clear hq
    go_loopw [5] (fun i wr => ∃ k : Nat, k ≤ l.length ∧ i = .int .i64 k ∧ Below w.heap.size w wr ∧ Hid (l.take k = m.take k)) (fun i _ => l.length - (intOf i).toNat)
    case atStart => exact ⟨0, Nat.zero_le _, rfl, Below.refl _ _, rfl⟩
    case round =>
      obtain ⟨k, hk, rfl, hb, HEQ⟩ := hrel
      by_cases hlt : k < l.length
      · have hlt' : k < m.length := by have := HL.out; omega
        obtain ⟨b, off, x, rfl, HX, hbs, c0⟩ := (hA.later hb).at k hlt
        obtain ⟨b', off', x', rfl, HY, hbs', d0⟩ := (hA'.later hb).at k hlt'
        have hsz := hb.size
        go_wp2
        go_quiet (fail)
        go_wp2
        · go_ret
          exact ⟨ret_bool (by symm; rw [decide_eq_false_iff_not]; rintro rfl; have := HX.out; rw [HY.out] at this; simp_all), by first | exact hb.trans (hb1.mono hsz) | (apply below_drewN; exact hb)⟩
        · go_roundw
          case rel => exact ⟨k+1, by omega, by go_num, by first | exact hb.trans (hb1.mono hsz) | (apply below_drewN; exact hb), take_succ_eq hlt hlt' HEQ.out (by rw [HX.out, HY.out]; simp_all)⟩
          case measure => simp [intOf]; omega
      · go_wp2
        go_ret
        exact ⟨ret_bool (by symm; rw [decide_eq_true_iff]; have := HEQ.out; rwa [List.take_of_length_le (by omega), List.take_of_length_le (by have := HL.out; omega)] at this), hb⟩
  · have hq : ((l.length : Int) != (m.length : Int)) = true := by simp; omega
    go_enter Try.func16, Try.ntmps16
    go_wp2
    go_ret
    exact ⟨ret_bool (by symm; rw [decide_eq_false_iff_not]; rintro rfl; simp at hlen), Below.refl _ _⟩
set_option maxHeartbeats 1000000 in
theorem vInts_c (a a' : Option Addr) (cap cap' : Nat) (l m : List Int) (w : World) (hA : IC w a l) (hA' : IC w a' m) (hl : l.length ≤ 1048576) (hl' : m.length ≤ 1048576) : Calls Try.prog 81 #[.slice a l.length cap, .slice a' m.length cap'] w fun e w' =>
   e = .returned (.bool (decide (l = m))) ∧ Below w.heap.size w w' := by
  by_cases hlen : l.length = m.length
  · have HL := Lib.hid hlen
    have hq : ((l.length : Int) != (m.length : Int)) = false := by simp [hlen]
    clear hlen
    go_enter Try.func81, Try.ntmps81
    go_wp2
    clear hq
    go_loopw [5] (fun i wr => ∃ k : Nat, k ≤ l.length ∧ i = .int .i64 k ∧ Below w.heap.size w wr ∧ Hid (l.take k = m.take k)) (fun i _ => l.length - (intOf i).toNat)
    case atStart => exact ⟨0, Nat.zero_le _, rfl, Below.refl _ _, rfl⟩
    case round =>
      obtain ⟨k, hk, rfl, hb, HEQ⟩ := hrel
      by_cases hlt : k < l.length
      · have hlt' : k < m.length := by have := HL.out; omega
        obtain ⟨b, off, x, rfl, HX, hbs, c0⟩ := (hA.later hb).at k hlt
        obtain ⟨b', off', x', rfl, HY, hbs', d0⟩ := (hA'.later hb).at k hlt'
        have hsz := hb.size
        go_wp2
        go_quiet (fail)
        go_wp2
        · go_ret
          exact ⟨ret_bool (by symm; rw [decide_eq_false_iff_not]; rintro rfl; have := HX.out; rw [HY.out] at this; simp_all), by first | exact hb.trans (hb1.mono hsz) | (apply below_drewN; exact hb)⟩
        · go_roundw
          case rel => exact ⟨k+1, by omega, by go_num, by first | exact hb.trans (hb1.mono hsz) | (apply below_drewN; exact hb), take_succ_eq hlt hlt' HEQ.out (by rw [HX.out, HY.out]; simp_all)⟩
          case measure => simp [intOf]; omega
      · go_wp2
        go_ret
        exact ⟨ret_bool (by symm; rw [decide_eq_true_iff]; have := HEQ.out; rwa [List.take_of_length_le (by omega), List.take_of_length_le (by have := HL.out; omega)] at this), hb⟩
  · have hq : ((l.length : Int) != (m.length : Int)) = true := by simp; omega
    go_enter Try.func81, Try.ntmps81
    go_wp2
    go_ret
    exact ⟨ret_bool (by symm; rw [decide_eq_false_iff_not]; rintro rfl; simp at hlen), Below.refl _ _⟩
theorem rBig_c (a : Option Addr) (n cap : Nat) (w : World) (hn : n ≤ maxLen) : Calls Try.prog 11 #[.slice a n cap] w fun e w' => e = .returned (.bool (decide (65536 < n))) ∧ w = w' := by
  unfold maxLen at hn
  go_enter Try.func11, Try.ntmps11
  go_wp2
  go_ret
  exact ⟨ret_bool (by simp; omega), rfl⟩
theorem vBig_c (a : Option Addr) (n cap : Nat) (w : World) (hn : n ≤ maxLen) : Calls Try.prog 63 #[.slice a n cap] w fun e w' => e = .returned (.bool (decide (65536 < n))) ∧ w = w' := by
  unfold maxLen at hn
  go_enter Try.func63, Try.ntmps63
  go_wp2
  go_ret
  exact ⟨ret_bool (by simp; omega), rfl⟩
end Go.Proofs.Ytmilpahggceemaa

namespace Go.Proofs.Ytmilpahggceemaa
open Go.RowKit Go.KD
attribute [local go_sem] later_cell later_frozen
set_option maxHeartbeats 8000000 in
theorem l1PutB_c (b0 off0 cap : Nat) (l : List Int) (x : Int) (w : World) (hA : IC w (some ⟨b0, off0, none⟩) l) (hl : l.length ≤ 1000) (hcap : l.length ≤ cap) (hc63 : cap ≤ maxLen) :
    Calls Try.prog 279 #[.slice (some ⟨b0, off0, none⟩) l.length cap, .int .i64 x] w fun e w' => ∃ b' off' c', e = .returned (.slice (some ⟨b', off', none⟩) (putL l x).length c') ∧ IC w' (some ⟨b', off', none⟩) (putL l x) ∧ (putL l x).length ≤ c' ∧ c' ≤ maxLen ∧ Below w.heap.size w w' ∧ (b' = b0 ∨ w.heap.size ≤ b') := by
  obtain ⟨i0, ji, jz0, jz1, jz2⟩ := info_parts infoI
  have hc2 : cap ≤ 9223372036854775807 := by unfold maxLen at hc63; omega
  go_enter Try.func279, Try.ntmps279
  go_wp2
  go_loop [5] (fun c => ∃ k : Nat, k ≤ l.length ∧ c = .int .i64 k ∧ Hid (∀ j, j < k → l[j]! < x)) (fun c => l.length - (intOf c).toNat)
  case atStart => exact ⟨0, Nat.zero_le _, rfl, fun j hj => absurd hj (Nat.not_lt_zero j)⟩
  case round =>
    obtain ⟨k, hk, rfl, HJ⟩ := hrel
    by_cases hlt : k < l.length
    · have hkn : (k : Int) < (l.length : Int) := by omega
      obtain ⟨b, off, y, hbo, HY, hbs, e0⟩ := hA.at k hlt
      cases hbo
      cases p1 : decide (y < x)
      · have HL : Hid (¬ l[k]! < x) := by show ¬ _; rw [HY.out]; simpa using p1
        cases p2 : (y == x)
        · have HE : Hid (putL l x = l.take k ++ x :: l.drop k) := by
            show _ = _
            rw [putL_eq l x k hk HJ.out (fun _ => HL.out), if_neg]
            rintro ⟨-, h⟩
            rw [HY.out] at h; simp [h] at p2
          have hkc : (k : Int) ≤ (cap : Int) := by omega
          have hkl : (k : Int) ≤ (l.length : Int) := by omega
          have hlc : (l.length : Int) ≤ (cap : Int) := by omega
          have hk0 : (0 : Int) ≤ (k : Int) := by omega
          have hck : ¬ (cap = k) := by omega
          go_wp2
          go_region_law (first
            | (refine step_append_below _ w w.heap.size (by (repeat (first | exact Below.refl _ _ | apply Below.drew | apply below_drewN | (refine Below.setCell ?_ (by first | omega | (simp; done) | (simp; omega) | (dsimp only; omega)) _) | (refine Below.alloc ?_ (by first | omega | (simp; done) | (simp; omega) | (dsimp only; omega)) _)))) (by rfl) _ _ 24 (by rfl) 3 i0 (.int .i64 0) 1 8 Try.underlying24 ji jz0 jz1 jz2 rfl (by decide) (.slice (some ⟨_, 0, none⟩) 0 0) 0 [] (by rfl) (own_empty (by first | exact heap1 w _ | exact heap2 w _ _ | exact heap3 w _ _) (by simp)) ⟨b0, off0, none⟩ k _ (ints (l.take k)) (by rfl) (by simp [length_ints]; omega) (news_take (hA.later (by (repeat (first | exact Below.refl _ _ | apply Below.drew | apply below_drewN | (refine Below.setCell ?_ (by first | omega | (simp; done) | (simp; omega) | (dsimp only; omega)) _) | (refine Below.alloc ?_ (by first | omega | (simp; done) | (simp; omega) | (dsimp only; omega)) _))))) k) ints_one (by unfold maxLen; omega) (by omega) (by simp; try omega) ?_; intro v1 w1 ho1 hg1 hb1)
            | (refine step_append_below _ w w.heap.size (hb1.alloc hb1.size _) (by rfl) _ _ 24 (by rfl) 3 i0 (.int .i64 0) 1 8 Try.underlying24 ji jz0 jz1 jz2 rfl (by decide) _ _ _ (by rfl) (ho1.alloc _) ⟨_, 0, none⟩ 1 1 (ints [x]) (by rfl) (by rfl) (cell_one_new _ _ _) ints_one (by unfold maxLen; omega) (by omega) (by have := hb1.size; simp; omega) ?_; intro v2 w2 ho2 hg2 hb2)
            | (refine step_append_below _ w w.heap.size hb1 (by rfl) _ _ 24 (by rfl) 3 i0 (.int .i64 0) 1 8 Try.underlying24 ji jz0 jz1 jz2 rfl (by decide) _ _ _ (by rfl) ho1 ⟨_, 0, none⟩ 1 1 (ints [x]) (by rfl) (by rfl) (by intro j u hu; rcases j with _ | j; (rw [add_at rfl, hg1.cell_far ⟨_, _, none⟩ (by simp; try omega) (by simp [Value.ownBlock]; try omega)]; simp [ints] at hu; subst hu; simp [go_sem]); (simp [ints] at hu)) ints_one (by unfold maxLen; omega) (by omega) hb1.size ?_; intro v2 w2 ho2 hg2 hb2)
            | (refine step_append_below _ w w.heap.size hb2 (by rfl) _ _ 24 (by rfl) 3 i0 (.int .i64 0) 1 8 Try.underlying24 ji jz0 jz1 jz2 rfl (by decide) _ _ _ (by rfl) ho2 ⟨b0, off0 + k, none⟩ (l.length - k) _ (ints (l.drop k)) (by rfl) (by simp [length_ints]) (news_drop (hA.later hb2) k) ints_one (by unfold maxLen; omega) (by omega) hb2.size ?_; intro v3 w3 ho3 hg3 hb3))
          all_goals
            obtain ⟨g3, c3, rfl, hi3, hr3, hm3, hlo3⟩ := put_end hk ho3
            have HI := Lib.hid hi3; clear hi3
            clear ho3 ho2 ho1 hg1 hg2 hg3
            go_wp2
            go_ret
            exact ⟨g3, 0, c3, by rw [HE.out]; rfl, by rw [HE.out]; exact HI.out, by rw [HE.out]; exact hr3, hm3, hb3, .inr hlo3⟩
        · have HE : Hid (putL l x = l) := by
            show _ = _
            rw [putL_eq l x k hk HJ.out (fun _ => HL.out), if_pos]
            exact ⟨hlt, by rw [HY.out]; simpa using p2⟩
          go_wp2
          go_ret
          exact ⟨b0, off0, cap, by rw [HE.out]; rfl, by rw [HE.out]; exact hA, by rw [HE.out]; exact hcap, hc63, Below.refl _ _, .inl rfl⟩
      · have HJ' : Hid (∀ j, j < k + 1 → l[j]! < x) := by
          intro j hj
          rcases Nat.lt_or_ge j k with h | h
          · exact HJ.out j h
          · obtain rfl : j = k := by omega
            rw [HY.out]; simpa using p1
        go_wp2
        go_round
        case rel => exact ⟨k + 1, by omega, by go_num, HJ'⟩
        case measure => simp [intOf]; omega
    · have hge : decide ((k : Int) < (l.length : Int)) = false := by simp; omega
      have HE : Hid (putL l x = l.take k ++ x :: l.drop k) := by
        show _ = _
        rw [putL_eq l x k hk HJ.out (fun h => absurd h hlt), if_neg (fun h => hlt h.1)]
      by_cases hck : cap = k
      · have hkc : (k : Int) ≤ (cap : Int) := by omega
        have hkl : (k : Int) ≤ (l.length : Int) := by omega
        have hlc : (l.length : Int) ≤ (cap : Int) := by omega
        have hk0 : (0 : Int) ≤ (k : Int) := by omega
        go_wp2
        go_region_law (first
          | (refine step_append_below _ w w.heap.size (by (repeat (first | exact Below.refl _ _ | apply Below.drew | apply below_drewN | (refine Below.setCell ?_ (by first | omega | (simp; done) | (simp; omega) | (dsimp only; omega)) _) | (refine Below.alloc ?_ (by first | omega | (simp; done) | (simp; omega) | (dsimp only; omega)) _)))) (by rfl) _ _ 24 (by rfl) 3 i0 (.int .i64 0) 1 8 Try.underlying24 ji jz0 jz1 jz2 rfl (by decide) (.slice (some ⟨_, 0, none⟩) 0 0) 0 [] (by rfl) (own_empty (by first | exact heap1 w _ | exact heap2 w _ _ | exact heap3 w _ _) (by simp)) ⟨b0, off0, none⟩ k _ (ints (l.take k)) (by rfl) (by simp [length_ints]; omega) (news_take (hA.later (by (repeat (first | exact Below.refl _ _ | apply Below.drew | apply below_drewN | (refine Below.setCell ?_ (by first | omega | (simp; done) | (simp; omega) | (dsimp only; omega)) _) | (refine Below.alloc ?_ (by first | omega | (simp; done) | (simp; omega) | (dsimp only; omega)) _))))) k) ints_one (by unfold maxLen; omega) (by omega) (by simp; try omega) ?_; intro v1 w1 ho1 hg1 hb1)
          | (refine step_append_below _ w w.heap.size (hb1.alloc hb1.size _) (by rfl) _ _ 24 (by rfl) 3 i0 (.int .i64 0) 1 8 Try.underlying24 ji jz0 jz1 jz2 rfl (by decide) _ _ _ (by rfl) (ho1.alloc _) ⟨_, 0, none⟩ 1 1 (ints [x]) (by rfl) (by rfl) (cell_one_new _ _ _) ints_one (by unfold maxLen; omega) (by omega) (by have := hb1.size; simp; omega) ?_; intro v2 w2 ho2 hg2 hb2)
          | (refine step_append_below _ w w.heap.size hb1 (by rfl) _ _ 24 (by rfl) 3 i0 (.int .i64 0) 1 8 Try.underlying24 ji jz0 jz1 jz2 rfl (by decide) _ _ _ (by rfl) ho1 ⟨_, 0, none⟩ 1 1 (ints [x]) (by rfl) (by rfl) (by intro j u hu; rcases j with _ | j; (rw [add_at rfl, hg1.cell_far ⟨_, _, none⟩ (by simp; try omega) (by simp [Value.ownBlock]; try omega)]; simp [ints] at hu; subst hu; simp [go_sem]); (simp [ints] at hu)) ints_one (by unfold maxLen; omega) (by omega) hb1.size ?_; intro v2 w2 ho2 hg2 hb2)
          | (refine step_append_below _ w w.heap.size hb2 (by rfl) _ _ 24 (by rfl) 3 i0 (.int .i64 0) 1 8 Try.underlying24 ji jz0 jz1 jz2 rfl (by decide) _ _ _ (by rfl) ho2 ⟨b0, off0, none⟩ (l.length - k) _ (ints (l.drop k)) (by rfl) (by simp [length_ints]) (by rw [List.drop_of_length_le (by omega)]; intro j u hu; simp [ints] at hu) ints_one (by unfold maxLen; omega) (by omega) hb2.size ?_; intro v3 w3 ho3 hg3 hb3))
        all_goals
          obtain ⟨g3, c3, rfl, hi3, hr3, hm3, hlo3⟩ := put_end hk ho3
          have HI := Lib.hid hi3; clear hi3
          clear ho3 ho2 ho1 hg1 hg2 hg3
          go_wp2
          go_ret
          exact ⟨g3, 0, c3, by rw [HE.out]; rfl, by rw [HE.out]; exact HI.out, by rw [HE.out]; exact hr3, hm3, hb3, .inr hlo3⟩
      · have hkc : (k : Int) ≤ (cap : Int) := by omega
        have hkl : (k : Int) ≤ (l.length : Int) := by omega
        have hlc : (l.length : Int) ≤ (cap : Int) := by omega
        have hk0 : (0 : Int) ≤ (k : Int) := by omega
        go_wp2
        go_region_law (first
          | (refine step_append_below _ w w.heap.size (by (repeat (first | exact Below.refl _ _ | apply Below.drew | apply below_drewN | (refine Below.setCell ?_ (by first | omega | (simp; done) | (simp; omega) | (dsimp only; omega)) _) | (refine Below.alloc ?_ (by first | omega | (simp; done) | (simp; omega) | (dsimp only; omega)) _)))) (by rfl) _ _ 24 (by rfl) 3 i0 (.int .i64 0) 1 8 Try.underlying24 ji jz0 jz1 jz2 rfl (by decide) (.slice (some ⟨_, 0, none⟩) 0 0) 0 [] (by rfl) (own_empty (by first | exact heap1 w _ | exact heap2 w _ _ | exact heap3 w _ _) (by simp)) ⟨b0, off0, none⟩ k _ (ints (l.take k)) (by rfl) (by simp [length_ints]; omega) (news_take (hA.later (by (repeat (first | exact Below.refl _ _ | apply Below.drew | apply below_drewN | (refine Below.setCell ?_ (by first | omega | (simp; done) | (simp; omega) | (dsimp only; omega)) _) | (refine Below.alloc ?_ (by first | omega | (simp; done) | (simp; omega) | (dsimp only; omega)) _))))) k) ints_one (by unfold maxLen; omega) (by omega) (by simp; try omega) ?_; intro v1 w1 ho1 hg1 hb1)
          | (refine step_append_below _ w w.heap.size (hb1.alloc hb1.size _) (by rfl) _ _ 24 (by rfl) 3 i0 (.int .i64 0) 1 8 Try.underlying24 ji jz0 jz1 jz2 rfl (by decide) _ _ _ (by rfl) (ho1.alloc _) ⟨_, 0, none⟩ 1 1 (ints [x]) (by rfl) (by rfl) (cell_one_new _ _ _) ints_one (by unfold maxLen; omega) (by omega) (by have := hb1.size; simp; omega) ?_; intro v2 w2 ho2 hg2 hb2)
          | (refine step_append_below _ w w.heap.size hb1 (by rfl) _ _ 24 (by rfl) 3 i0 (.int .i64 0) 1 8 Try.underlying24 ji jz0 jz1 jz2 rfl (by decide) _ _ _ (by rfl) ho1 ⟨_, 0, none⟩ 1 1 (ints [x]) (by rfl) (by rfl) (by intro j u hu; rcases j with _ | j; (rw [add_at rfl, hg1.cell_far ⟨_, _, none⟩ (by simp; try omega) (by simp [Value.ownBlock]; try omega)]; simp [ints] at hu; subst hu; simp [go_sem]); (simp [ints] at hu)) ints_one (by unfold maxLen; omega) (by omega) hb1.size ?_; intro v2 w2 ho2 hg2 hb2)
          | (refine step_append_below _ w w.heap.size hb2 (by rfl) _ _ 24 (by rfl) 3 i0 (.int .i64 0) 1 8 Try.underlying24 ji jz0 jz1 jz2 rfl (by decide) _ _ _ (by rfl) ho2 ⟨b0, off0 + k, none⟩ (l.length - k) _ (ints (l.drop k)) (by rfl) (by simp [length_ints]) (news_drop (hA.later hb2) k) ints_one (by unfold maxLen; omega) (by omega) hb2.size ?_; intro v3 w3 ho3 hg3 hb3))
        all_goals
          obtain ⟨g3, c3, rfl, hi3, hr3, hm3, hlo3⟩ := put_end hk ho3
          have HI := Lib.hid hi3; clear hi3
          clear ho3 ho2 ho1 hg1 hg2 hg3
          go_wp2
          go_ret
          exact ⟨g3, 0, c3, by rw [HE.out]; rfl, by rw [HE.out]; exact HI.out, by rw [HE.out]; exact hr3, hm3, hb3, .inr hlo3⟩
theorem l1Put_c (b0 off0 cap : Nat) (l : List Int) (x : Int) (w : World) (hA : IC w (some ⟨b0, off0, none⟩) l) (hl : l.length ≤ 1000) (hcap : l.length ≤ cap) (hc63 : cap ≤ maxLen) :
    Calls Try.prog 279 #[.slice (some ⟨b0, off0, none⟩) l.length cap, .int .i64 x] w fun e w' => ∃ b' off' c', e = .returned (.slice (some ⟨b', off', none⟩) (putL l x).length c') ∧ IC w' (some ⟨b', off', none⟩) (putL l x) ∧ (putL l x).length ≤ c' ∧ c' ≤ maxLen ∧ Below w.heap.size w w' :=
  (l1PutB_c b0 off0 cap l x w hA hl hcap hc63).mono fun _ _ ⟨b', off', c', h1, h2, h3, h4, h5, _⟩ => ⟨b', off', c', h1, h2, h3, h4, h5⟩
end Go.Proofs.Ytmilpahggceemaa

namespace Go.KD
def xorV (a b : Int) : Int := ((a.toNat ^^^ b.toNat : Nat) : Int)
theorem xorV_bits {a b : Int} (ha : 0 ≤ a ∧ a < 64) (hb : 0 ≤ b ∧ b < 64) : bits .xor .i64 a b = xorV a b := by
  obtain ⟨n, rfl⟩ := Int.eq_ofNat_of_zero_le ha.1
  obtain ⟨k, rfl⟩ := Int.eq_ofNat_of_zero_le hb.1
  rw [i64_xor n k (by omega) (by omega)]
  simp [xorV]
/-- The nodes next to x by a gate that is open. -/
def adjG (x l : Int) (s : Nat) (g : D4) : Nat :=
  if openB g l then (if g.2.1 = x then setN (if g.1 = x then setN s g.2.1 else s) g.1 else (if g.1 = x then setN s g.2.1 else s)) else s
def nbK (gs : List D4) (x l : Int) (k : Nat) : Nat := (gs.take k).foldl (adjG x l) 0
def actsL (m : Wk) (x l : Int) : List Int := (if m.pulls[x.toNat]! = 0 then [] else [-1]) ++ mem (nbK m.gates x l m.gates.length)
noncomputable def visitB (m : Wk) (x l : Int) : Bool := worksB m && inB x 0 (m.size - 1) && setB l
theorem nb_step {gs : List D4} {x l : Int} {k : Nat} (hk : k < gs.length) : nbK gs x l (k + 1) = adjG x l (nbK gs x l k) gs[k]! := by
  unfold nbK
  rw [take_snoc hk, List.foldl_append]
  rfl
theorem nb_lt {m : Wk} (ok : WkOk m) (x l : Int) : ∀ k, k ≤ m.gates.length → nbK m.gates x l k < 4096
  | 0, _ => by simp [nbK]
  | k + 1, hk => by
    have ih := nb_lt ok x l k (by omega)
    rw [nb_step (by omega)]
    obtain ⟨a, b, c, d, hg⟩ : ∃ a b c d, m.gates[k]! = (a, b, c, d) := ⟨_, _, _, _, rfl⟩
    have f := gate_facts ok (by omega) hg
    have hs := ok.s2
    have ha : 0 ≤ a ∧ a < 12 := by omega
    have hb : 0 ≤ b ∧ b < 12 := by omega
    rw [hg]
    unfold adjG
    dsimp only
    split
    · split <;> split <;> first | exact ih | exact setN_lt ih ha | exact setN_lt ih hb | exact setN_lt (setN_lt ih hb) ha
    · exact ih
end Go.KD
namespace Go.Proofs.Ytmilpahggceemaa
open Go.RowKit Go.KD
attribute [local go_sem] later_cell later_frozen
set_option maxHeartbeats 1000000 in
theorem isVisitOf_c (v : Value) (m : Wk) (x l : Int) (w : World) (hm : WkAt w v m) : Calls Try.prog 158 #[v, .int .i64 x, .int .i64 l] w fun e w' => e = .returned (.bool (visitB m x l)) ∧ Below w.heap.size w w' := by
  have hM := hm
  obtain ⟨⟨ad, cd, ak, ck, rfl, hd, hk'⟩, nd, nk⟩ := hM
  obtain ⟨s, gs, ps⟩ := m
  dsimp only at *
  cases b1 : worksB ⟨s, gs, ps⟩
  · go_enter Try.func158, Try.ntmps158
    go_wp2_with (first | (go_at_call 52; refine (isWorks_c _ ⟨s, gs, ps⟩ _ (hm.later (by (repeat (first | exact Below.refl _ _ | apply Below.drew | apply below_drewN | (refine Below.setCell ?_ (by first | omega | (simp; done) | (simp; omega) | (dsimp only; omega)) _) | (refine Below.alloc ?_ (by first | omega | (simp; done) | (simp; omega) | (dsimp only; omega)) _)))))).mono ?_; rintro e w1 ⟨rfl, hb1⟩; obtain ⟨hc1, hf1, hz1⟩ := bcell3 hb1; have HB1 : Hid (Below w.heap.size w w1) := below_then (by (repeat (first | exact Below.refl _ _ | apply Below.drew | apply below_drewN | (refine Below.setCell ?_ (by first | omega | (simp; done) | (simp; omega) | (dsimp only; omega)) _) | (refine Below.alloc ?_ (by first | omega | (simp; done) | (simp; omega) | (dsimp only; omega)) _)))) hb1) | (go_at_call 145; refine (within_c _ _ _ _).mono ?_; rintro e w2 ⟨rfl, rfl⟩) | (go_at_call 137; refine (isSet_c _ _).mono ?_; rintro e w3 ⟨rfl, rfl⟩))
    go_ret
    exact ⟨ret_bool (by simp [visitB, b1]), HB1.out⟩
  have ok := worksB_true.1 b1
  have hs1 : 1 ≤ s := ok.s1
  have hs2 : s ≤ 12 := ok.s2
  clear ok
  cases b2 : inB x 0 (s - 1)
  · go_enter Try.func158, Try.ntmps158
    go_wp2_with (first | (go_at_call 52; refine (isWorks_c _ ⟨s, gs, ps⟩ _ (hm.later (by (repeat (first | exact Below.refl _ _ | apply Below.drew | apply below_drewN | (refine Below.setCell ?_ (by first | omega | (simp; done) | (simp; omega) | (dsimp only; omega)) _) | (refine Below.alloc ?_ (by first | omega | (simp; done) | (simp; omega) | (dsimp only; omega)) _)))))).mono ?_; rintro e w1 ⟨rfl, hb1⟩; obtain ⟨hc1, hf1, hz1⟩ := bcell3 hb1; have HB1 : Hid (Below w.heap.size w w1) := below_then (by (repeat (first | exact Below.refl _ _ | apply Below.drew | apply below_drewN | (refine Below.setCell ?_ (by first | omega | (simp; done) | (simp; omega) | (dsimp only; omega)) _) | (refine Below.alloc ?_ (by first | omega | (simp; done) | (simp; omega) | (dsimp only; omega)) _)))) hb1) | (go_at_call 145; refine (within_c _ _ _ _).mono ?_; rintro e w2 ⟨rfl, rfl⟩) | (go_at_call 137; refine (isSet_c _ _).mono ?_; rintro e w3 ⟨rfl, rfl⟩))
    go_ret
    exact ⟨ret_bool (by simp [visitB, b1, b2]), HB1.out⟩
  · go_enter Try.func158, Try.ntmps158
    go_wp2_with (first | (go_at_call 52; refine (isWorks_c _ ⟨s, gs, ps⟩ _ (hm.later (by (repeat (first | exact Below.refl _ _ | apply Below.drew | apply below_drewN | (refine Below.setCell ?_ (by first | omega | (simp; done) | (simp; omega) | (dsimp only; omega)) _) | (refine Below.alloc ?_ (by first | omega | (simp; done) | (simp; omega) | (dsimp only; omega)) _)))))).mono ?_; rintro e w1 ⟨rfl, hb1⟩; obtain ⟨hc1, hf1, hz1⟩ := bcell3 hb1; have HB1 : Hid (Below w.heap.size w w1) := below_then (by (repeat (first | exact Below.refl _ _ | apply Below.drew | apply below_drewN | (refine Below.setCell ?_ (by first | omega | (simp; done) | (simp; omega) | (dsimp only; omega)) _) | (refine Below.alloc ?_ (by first | omega | (simp; done) | (simp; omega) | (dsimp only; omega)) _)))) hb1) | (go_at_call 145; refine (within_c _ _ _ _).mono ?_; rintro e w2 ⟨rfl, rfl⟩) | (go_at_call 137; refine (isSet_c _ _).mono ?_; rintro e w3 ⟨rfl, rfl⟩))
    go_ret
    exact ⟨ret_bool (by simp [visitB, b1, b2]), HB1.out⟩
set_option maxHeartbeats 1000000 in
theorem l8Visit_c (v : Value) (m : Wk) (x l : Int) (w : World) (hm : WkAt w v m) : Calls Try.prog 160 #[v, .int .i64 x, .int .i64 l] w fun e w' => e = .returned (.bool (visitB m x l)) ∧ Below w.heap.size w w' := by
  have hM := hm
  obtain ⟨⟨ad, cd, ak, ck, rfl, hd, hk'⟩, nd, nk⟩ := hM
  obtain ⟨s, gs, ps⟩ := m
  dsimp only at *
  cases b1 : worksB ⟨s, gs, ps⟩
  · go_enter Try.func160, Try.ntmps160
    go_wp2_with (first | (go_at_call 141; refine (l8Works_c _ ⟨s, gs, ps⟩ _ (hm.later (by (repeat (first | exact Below.refl _ _ | apply Below.drew | apply below_drewN | (refine Below.setCell ?_ (by first | omega | (simp; done) | (simp; omega) | (dsimp only; omega)) _) | (refine Below.alloc ?_ (by first | omega | (simp; done) | (simp; omega) | (dsimp only; omega)) _)))))).mono ?_; rintro e w1 ⟨rfl, hb1⟩; obtain ⟨hc1, hf1, hz1⟩ := bcell3 hb1; have HB1 : Hid (Below w.heap.size w w1) := below_then (by (repeat (first | exact Below.refl _ _ | apply Below.drew | apply below_drewN | (refine Below.setCell ?_ (by first | omega | (simp; done) | (simp; omega) | (dsimp only; omega)) _) | (refine Below.alloc ?_ (by first | omega | (simp; done) | (simp; omega) | (dsimp only; omega)) _)))) hb1) | (go_at_call 147; refine (l1In_c _ _ _ _).mono ?_; rintro e w2 ⟨rfl, rfl⟩) | (go_at_call 133; refine (l2Set_c _ _).mono ?_; rintro e w3 ⟨rfl, rfl⟩))
    go_ret
    exact ⟨ret_bool (by simp [visitB, b1]), HB1.out⟩
  have ok := worksB_true.1 b1
  have hs1 : 1 ≤ s := ok.s1
  have hs2 : s ≤ 12 := ok.s2
  clear ok
  cases b2 : inB x 0 (s - 1)
  · go_enter Try.func160, Try.ntmps160
    go_wp2_with (first | (go_at_call 141; refine (l8Works_c _ ⟨s, gs, ps⟩ _ (hm.later (by (repeat (first | exact Below.refl _ _ | apply Below.drew | apply below_drewN | (refine Below.setCell ?_ (by first | omega | (simp; done) | (simp; omega) | (dsimp only; omega)) _) | (refine Below.alloc ?_ (by first | omega | (simp; done) | (simp; omega) | (dsimp only; omega)) _)))))).mono ?_; rintro e w1 ⟨rfl, hb1⟩; obtain ⟨hc1, hf1, hz1⟩ := bcell3 hb1; have HB1 : Hid (Below w.heap.size w w1) := below_then (by (repeat (first | exact Below.refl _ _ | apply Below.drew | apply below_drewN | (refine Below.setCell ?_ (by first | omega | (simp; done) | (simp; omega) | (dsimp only; omega)) _) | (refine Below.alloc ?_ (by first | omega | (simp; done) | (simp; omega) | (dsimp only; omega)) _)))) hb1) | (go_at_call 147; refine (l1In_c _ _ _ _).mono ?_; rintro e w2 ⟨rfl, rfl⟩) | (go_at_call 133; refine (l2Set_c _ _).mono ?_; rintro e w3 ⟨rfl, rfl⟩))
    go_ret
    exact ⟨ret_bool (by simp [visitB, b1, b2]), HB1.out⟩
  · go_enter Try.func160, Try.ntmps160
    go_wp2_with (first | (go_at_call 141; refine (l8Works_c _ ⟨s, gs, ps⟩ _ (hm.later (by (repeat (first | exact Below.refl _ _ | apply Below.drew | apply below_drewN | (refine Below.setCell ?_ (by first | omega | (simp; done) | (simp; omega) | (dsimp only; omega)) _) | (refine Below.alloc ?_ (by first | omega | (simp; done) | (simp; omega) | (dsimp only; omega)) _)))))).mono ?_; rintro e w1 ⟨rfl, hb1⟩; obtain ⟨hc1, hf1, hz1⟩ := bcell3 hb1; have HB1 : Hid (Below w.heap.size w w1) := below_then (by (repeat (first | exact Below.refl _ _ | apply Below.drew | apply below_drewN | (refine Below.setCell ?_ (by first | omega | (simp; done) | (simp; omega) | (dsimp only; omega)) _) | (refine Below.alloc ?_ (by first | omega | (simp; done) | (simp; omega) | (dsimp only; omega)) _)))) hb1) | (go_at_call 147; refine (l1In_c _ _ _ _).mono ?_; rintro e w2 ⟨rfl, rfl⟩) | (go_at_call 133; refine (l2Set_c _ _).mono ?_; rintro e w3 ⟨rfl, rfl⟩))
    go_ret
    exact ⟨ret_bool (by simp [visitB, b1, b2]), HB1.out⟩
set_option maxRecDepth 100000 in
set_option maxHeartbeats 2000000 in
theorem grow_c (n : Nat) (h0 : 0 < n) (hn : n ≤ 100000) (w : World) : Calls Try.prog 318 #[.slice none 0 0, .int .i64 n] w fun e w' =>
    ∃ v, e = .returned v ∧ w'.ownsRow w.heap.size 3 1 v 0 [] ∧ Below w.heap.size w w' := by
  obtain ⟨i0, hi, hz0, hz1, hz2⟩ := info_parts infoI
  have h1 : decide ((n : Int) < 0) = false := by simp
  have h4 : decide ((n : Int) > 0) = true := by simp; omega
  have hold : (Builtin.firstCells i0.size 0 (.slice none 0 0)).run Try.prog w.drew = .ok #[] w.drew := run_firstCells_none w.drew i0.size 0 0 0
  have hrz : ∀ ty, (Builtin.append_ #[24, 3] ty #[.slice none 0 0, .int .i64 n]).run Try.prog w =
      .ok (.slice (some ⟨w.heap.size, 0, none⟩) n (grownCap w n 0 3)) (w.drew.alloc (.cells (#[] ++ Builtin.zeroCells (Value.int .i64 0).cells n ++ Builtin.zeroCells (Value.int .i64 0).cells (grownCap w n 0 3 - n)) 3)) := fun ty => by
    have h := Lib.run_append_grow_zeros w 24 3 ty 3 i0 (.int .i64 0) .i64 .i64 Try.underlying24 Try.underlying3 hi hz0 none 0 0 [] (by exact hold) n h0 (by rw [hz1]; omega) (by omega) (by omega)
      (by rw [hz2]; omega)
      (by rw [Nat.zero_add]; exact growslice_fits (by omega) (by rw [hz2]; omega))
    rw [Nat.zero_add] at h
    exact h
  have hGn : n ≤ grownCap w n 0 3 := by have := grownCap_ge w n 0 3; omega
  have hGm := grownCap_le_maxLen w n 0 3 (by unfold maxLen; omega)
  obtain ⟨G, hG⟩ : ∃ G, G = grownCap w n 0 3 := ⟨_, rfl⟩
  rw [← hG] at hrz hGn hGm
  have hG63 : G ≤ 9223372036854775807 := by unfold maxLen at hGm; omega
  have hG63' : (0 : Int) ≤ (G : Int) := by omega
  clear hold hG
  go_enter Try.func318, Try.ntmps318
  go_wp2_with (at_builtin; refine Lib.wpList_append_run _ rfl _ _ _ _ rfl _ _ rfl rfl _ _ (hrz _) ?_)
  go_ret
  refine ⟨_, rfl, ?_, ((Below.refl _ _).drew).alloc (Nat.le_refl _) _⟩
  exact World.ownsRow_made w.drew _ _ (Nat.le_refl _) hGm (by simp only [Array.size_append, size_zeroCells, List.size_toArray, List.length_nil]; simp only [List.length_singleton]; omega)
end Go.Proofs.Ytmilpahggceemaa

namespace Go.Proofs.Ytmilpahggceemaa
open Go.RowKit Go.KD
attribute [local go_sem] later_cell later_frozen
theorem heap2b (w : World) (a o p : Obj) : (((w.alloc a).alloc o).alloc p).heap[w.heap.size + 1]? = some o := (heap_alloc_old _ _ (by simp)).trans (heap_alloc2_new w a o)
theorem own_some {w : World} {base : Nat} {e : TypeId} {size n : Nat} {v : Value} {xs : List Value} (h : w.ownsRow base e size v n xs) (hn : 0 < n) : ∃ g c, v = .slice (some ⟨g, 0, none⟩) n c ∧ n ≤ c ∧ c ≤ maxLen := by
  rcases h.2 with ⟨_, h0⟩ | ⟨g, c, cur, hv, _, _, hc, hm, _⟩
  · omega
  · exact ⟨g, c, hv, hc, hm⟩
def SLB (base : Nat) (w : World) (v : Value) (L : List Int) : Prop := ∃ b off c, v = .slice (some ⟨b, off, none⟩) L.length c ∧ IC w (some ⟨b, off, none⟩) L ∧ L.length ≤ c ∧ c ≤ maxLen ∧ base ≤ b
def SL (w : World) (v : Value) (L : List Int) : Prop := ∃ b off c, v = .slice (some ⟨b, off, none⟩) L.length c ∧ IC w (some ⟨b, off, none⟩) L ∧ L.length ≤ c ∧ c ≤ maxLen
theorem SL_nil (base : Nat) (w : World) (b off c : Nat) (h : c ≤ maxLen) (hb : base ≤ b) : SLB base w (.slice (some ⟨b, off, none⟩) 0 c) [] := ⟨b, off, c, rfl, fun j hj => absurd hj (Nat.not_lt_zero j), Nat.zero_le _, h, hb⟩
set_option maxRecDepth 100000 in
set_option maxHeartbeats 8000000 in
theorem l8ActsB_c (v : Value) (m : Wk) (x l : Nat) (w : World) (hm : WkAt w v m) (ok : WkOk m) (hx : (x : Int) < m.size) (hl : l < 64) :
    Calls Try.prog 177 #[v, .int .i64 x, .int .i64 l] w fun e w' => ∃ u, e = .returned u ∧ SLB w.heap.size w' u (actsL m x l) ∧ Below w.heap.size w w' := by
  have hM := hm
  obtain ⟨⟨ad, cd, ak, ck, rfl, hd, hk'⟩, nd, nk⟩ := hM
  obtain ⟨i0, ji, jz0, jz1, jz2⟩ := info_parts infoI
  have hng := ok.ng
  have hnp : x < m.pulls.length := by have := ok.np; omega
  have hpl := ok.pl x hnp
  obtain ⟨s, gs, ps⟩ := m
  dsimp only at *
  have OK := Lib.hid ok; clear ok
  have hs2 : s ≤ 12 := OK.out.s2
  have hx12 : x < 12 := by omega
  obtain ⟨bp, offp, pv, rfl, HX, hbs, ep⟩ := hk'.at x hnp
  rw [HX.out] at hpl
  have hp0 : 0 ≤ pv := (setB_true.1 hpl).1
  clear hpl
  obtain ⟨pre, hpre⟩ : ∃ pre : List Int, pre = if pv = 0 then [] else [-1] := ⟨_, rfl⟩
  have hpre2 : pre = [] ∨ pre = [-1] := by rw [hpre]; split <;> simp
  have hprel : pre.length ≤ 1 := by rcases hpre2 with h | h <;> simp [h]
  have HA : Hid (actsL ⟨s, gs, ps⟩ x l = pre ++ mem (nbK gs x l gs.length)) := by show _ = _; rw [hpre]; simp [actsL, HX.out]
  have HPRE := Lib.hid hpre; clear hpre
  have HPRE2 := Lib.hid hpre2; clear hpre2
  have hml : ∀ t, (pre ++ mem t).length ≤ 41 := by intro t; have := memK_len t 40; rw [List.length_append, mem_eq]; omega
  have HML := Lib.hid hml; clear hml
  have H0 : Hid (pre ++ mem (nbK gs x l 0) = pre) := by show _ = _; simp [nbK, mem, memN]
  cases p0 : decide (0 < pv)
  · have HE0 : Hid (pre = []) := by show _ = _; rw [HPRE.out, if_pos]; simp at p0; omega
    go_enter Try.func177, Try.ntmps177
    go_wp2
    go_loopw [7, 8] (fun u i wr => ∃ k : Nat, k ≤ gs.length ∧ i = .int .i64 k ∧ Hid (SLB w.heap.size wr u (pre ++ mem (nbK gs x l k))) ∧ Below (w.heap.size + 1) (w.alloc (.cells #[.int .i64 s, .slice ad gs.length cd, .slice (some ⟨bp, offp, none⟩) ps.length ck] 36)) wr) (fun _ i _ => gs.length - (intOf i).toNat)
    case atStart => exact ⟨0, Nat.zero_le _, rfl, by rw [H0.out, HE0.out]; exact SL_nil _ _ _ _ _ (Nat.zero_le _) (by omega), (Below.refl _ _).alloc (by simp) _⟩
    case round =>
      obtain ⟨wo, rfl⟩ : ∃ wo : World, wo = wr := ⟨_, rfl⟩
      obtain ⟨k, hkl, rfl, HS, hb⟩ := hrel
      obtain ⟨hc, hf, hz⟩ := bcell3 hb
      simp only [World.size_alloc] at hz
      have hz1 : w.heap.size < wo.heap.size := by omega
      have HB : Hid (Below w.heap.size w wo) := (by (repeat (first | exact Below.refl _ _ | apply Below.drew | apply below_drewN | (refine Below.setCell ?_ (by first | omega | (simp; done) | (simp; omega) | (dsimp only; omega)) _) | (refine Below.alloc ?_ (by first | omega | (simp; done) | (simp; omega) | (dsimp only; omega)) _))) : Below w.heap.size w (w.alloc _)).trans (hb.mono (by omega))
      have HBo := Lib.hid hb
      obtain ⟨sN, hsN⟩ : ∃ sN, sN = nbK gs x l k := ⟨_, rfl⟩
      have hL41 := HML.out sN
      obtain ⟨L, hL⟩ : ∃ L, L = pre ++ mem sN := ⟨_, rfl⟩
      rw [← hsN, ← hL] at HS
      rw [← hL] at hL41
      have HL := Lib.hid hL; clear hL
      obtain ⟨bo, oo, co, rfl, ho, hr, hmx, hlo⟩ := HS.out
      have HO := Lib.hid ho; clear ho
      by_cases hlt : k < gs.length
      · obtain ⟨b, off, x0, y0, z0, u0, rfl, HX2, hbs2, e0, e1, e2, e3⟩ := (hd.later HB.out).at k hlt
        obtain ⟨f1, f2, f3, f4, f5, f6, f7⟩ := gate_facts OK.out hlt HX2.out
        dsimp only at f3
        obtain ⟨xn, rfl⟩ := Int.eq_ofNat_of_zero_le f1
        obtain ⟨yn, rfl⟩ := Int.eq_ofNat_of_zero_le (show 0 ≤ y0 by omega)
        obtain ⟨zn, rfl⟩ := Int.eq_ofNat_of_zero_le f4
        have hx40 : xn < 40 := by omega
        have hy40 : yn < 40 := by omega
        have hz64 : zn < 64 := by omega
        have HN : Hid (nbK gs x l (k + 1) = adjG x l sN ((xn : Int), (yn : Int), (zn : Int), u0)) := by show _ = _; rw [nb_step hlt, HX2.out, hsN]
        clear hsN
        cases po : openB ((xn : Int), (yn : Int), (zn : Int), u0) l
        · have HF : Hid (nbK gs x l (k + 1) = sN) := by show _ = _; rw [HN.out]; simp [adjG, po]
          go_wp2_with fail
          refine (l8Open_c _ _ _ zn l hz64 hl _).mono ?_
          rintro e w2 ⟨rfl, hb2⟩
          have HB2 : Hid (Below (w.heap.size + 1) (w.alloc (.cells #[.int .i64 s, .slice (some ⟨b, off, none⟩) gs.length cd, .slice (some ⟨bp, offp, none⟩) ps.length ck] 36)) w2) := (HBo.out.alloc (by omega) _).trans (hb2.mono (by simp; omega))
          have HI2 : Hid (IC w2 (some ⟨bo, oo, none⟩) L) := (HO.out.later ((Below.refl _ _).alloc (Nat.le_refl _) _)).later hb2
          have hz2 : wo.heap.size < w2.heap.size := by have := hb2.size; simp at this; omega
          have k0 : w2.cell? ⟨wo.heap.size, 0, none⟩ = some (.int .i64 xn) := by rw [hb2.cell (p := ⟨wo.heap.size, 0, none⟩) (by simp)]; simp [go_sem]
          have k1 : w2.cell? ⟨wo.heap.size, 1, none⟩ = some (.int .i64 yn) := by rw [hb2.cell (p := ⟨wo.heap.size, 1, none⟩) (by simp)]; simp [go_sem]
          clear hb2 hc hf
          rw [po]
          go_wp2
          go_roundw
          case rel => exact ⟨k + 1, by omega, by go_num, by rw [HF.out, ← HL.out]; exact ⟨_, _, _, rfl, HI2.out, hr, hmx, by omega⟩, HB2.out⟩
          case measure => simp [intOf]; omega
        · cases p1 : ((xn : Int) == (x : Int)) <;> cases p2 : ((yn : Int) == (x : Int))
          case false.false =>
            go_wp2_with fail
            refine (l8Open_c _ _ _ zn l hz64 hl _).mono ?_
            rintro e w2 ⟨rfl, hb2⟩
            have HB2 : Hid (Below (w.heap.size + 1) (w.alloc (.cells #[.int .i64 s, .slice (some ⟨b, off, none⟩) gs.length cd, .slice (some ⟨bp, offp, none⟩) ps.length ck] 36)) w2) := (HBo.out.alloc (by omega) _).trans (hb2.mono (by simp; omega))
            have HI2 : Hid (IC w2 (some ⟨bo, oo, none⟩) L) := (HO.out.later ((Below.refl _ _).alloc (Nat.le_refl _) _)).later hb2
            have hz2 : wo.heap.size < w2.heap.size := by have := hb2.size; simp at this; omega
            have k0 : w2.cell? ⟨wo.heap.size, 0, none⟩ = some (.int .i64 xn) := by rw [hb2.cell (p := ⟨wo.heap.size, 0, none⟩) (by simp)]; simp [go_sem]
            have k1 : w2.cell? ⟨wo.heap.size, 1, none⟩ = some (.int .i64 yn) := by rw [hb2.cell (p := ⟨wo.heap.size, 1, none⟩) (by simp)]; simp [go_sem]
            clear hb2 hc hf
            rw [po]
            go_wp2
            go_roundw
            case rel =>
              have HF : nbK gs x l (k + 1) = sN := by
                rw [HN.out]; simp only [adjG, po, if_true]; simp only [beq_iff_eq, beq_eq_false_iff_ne] at p1 p2
                first | rw [if_pos p2, if_pos p1] | rw [if_pos p2, if_neg p1] | rw [if_neg p2, if_pos p1] | rw [if_neg p2, if_neg p1]
                all_goals simp [setN]
              refine ⟨k + 1, by omega, by go_num, ?_, HB2.out⟩
              rw [HF]
              have HE : pre ++ mem (sN) = L := by exact HL.out.symm
              rw [HE]
              exact ⟨_, _, _, rfl, HI2.out, hr, hmx, by omega⟩
            case measure => simp [intOf]; omega
          case false.true =>
            go_wp2_with fail
            refine (l8Open_c _ _ _ zn l hz64 hl _).mono ?_
            rintro e w2 ⟨rfl, hb2⟩
            have HB2 : Hid (Below (w.heap.size + 1) (w.alloc (.cells #[.int .i64 s, .slice (some ⟨b, off, none⟩) gs.length cd, .slice (some ⟨bp, offp, none⟩) ps.length ck] 36)) w2) := (HBo.out.alloc (by omega) _).trans (hb2.mono (by simp; omega))
            have HI2 : Hid (IC w2 (some ⟨bo, oo, none⟩) L) := (HO.out.later ((Below.refl _ _).alloc (Nat.le_refl _) _)).later hb2
            have hz2 : wo.heap.size < w2.heap.size := by have := hb2.size; simp at this; omega
            have k0 : w2.cell? ⟨wo.heap.size, 0, none⟩ = some (.int .i64 xn) := by rw [hb2.cell (p := ⟨wo.heap.size, 0, none⟩) (by simp)]; simp [go_sem]
            have k1 : w2.cell? ⟨wo.heap.size, 1, none⟩ = some (.int .i64 yn) := by rw [hb2.cell (p := ⟨wo.heap.size, 1, none⟩) (by simp)]; simp [go_sem]
            clear hb2 hc hf
            rw [po]
            have h41 := hL41
            go_wp2_with fail
            refine (l1PutB_c _ _ _ L (xn : Int) _ HI2.out (by omega) hr hmx).mono ?_
            rintro e w3 ⟨bo3, oo3, co3, rfl, hi3, hr3, hm3, hb3, hlo3⟩
            have HB3 : Hid (Below (w.heap.size + 1) (w.alloc (.cells #[.int .i64 s, .slice (some ⟨b, off, none⟩) gs.length cd, .slice (some ⟨bp, offp, none⟩) ps.length ck] 36)) w3) := HB2.out.trans (hb3.mono (by omega))
            have hz3 : wo.heap.size < w3.heap.size := by have := hb3.size; omega
            have k0 := (hb3.cell (p := ⟨wo.heap.size, 0, none⟩) hz2).trans k0
            have k1 := (hb3.cell (p := ⟨wo.heap.size, 1, none⟩) hz2).trans k1
            obtain ⟨L1, hL1⟩ : ∃ M, M = putL L (xn : Int) := ⟨_, rfl⟩
            rw [← hL1] at hi3 hr3 ⊢
            have HI3 := Lib.hid hi3; clear hi3 hb3
            have HL1 := Lib.hid hL1; clear hL1
            go_wp2
            go_roundw
            case rel =>
              have HF : nbK gs x l (k + 1) = sN ||| 2 ^ xn := by
                rw [HN.out]; simp only [adjG, po, if_true]; simp only [beq_iff_eq, beq_eq_false_iff_ne] at p1 p2
                first | rw [if_pos p2, if_pos p1] | rw [if_pos p2, if_neg p1] | rw [if_neg p2, if_pos p1] | rw [if_neg p2, if_neg p1]
                all_goals simp [setN]
              refine ⟨k + 1, by omega, by go_num, ?_, HB3.out⟩
              rw [HF]
              have HE : pre ++ mem (sN ||| 2 ^ xn) = L1 := by rw [HL1.out, HL.out, put_mem _ HPRE2.out _ _ hx40]
              rw [HE]
              exact ⟨_, _, _, rfl, HI3.out, hr3, hm3, by omega⟩
            case measure => simp [intOf]; omega
          case true.false =>
            go_wp2_with fail
            refine (l8Open_c _ _ _ zn l hz64 hl _).mono ?_
            rintro e w2 ⟨rfl, hb2⟩
            have HB2 : Hid (Below (w.heap.size + 1) (w.alloc (.cells #[.int .i64 s, .slice (some ⟨b, off, none⟩) gs.length cd, .slice (some ⟨bp, offp, none⟩) ps.length ck] 36)) w2) := (HBo.out.alloc (by omega) _).trans (hb2.mono (by simp; omega))
            have HI2 : Hid (IC w2 (some ⟨bo, oo, none⟩) L) := (HO.out.later ((Below.refl _ _).alloc (Nat.le_refl _) _)).later hb2
            have hz2 : wo.heap.size < w2.heap.size := by have := hb2.size; simp at this; omega
            have k0 : w2.cell? ⟨wo.heap.size, 0, none⟩ = some (.int .i64 xn) := by rw [hb2.cell (p := ⟨wo.heap.size, 0, none⟩) (by simp)]; simp [go_sem]
            have k1 : w2.cell? ⟨wo.heap.size, 1, none⟩ = some (.int .i64 yn) := by rw [hb2.cell (p := ⟨wo.heap.size, 1, none⟩) (by simp)]; simp [go_sem]
            clear hb2 hc hf
            rw [po]
            go_wp2_with fail
            refine (l1PutB_c _ _ _ L (yn : Int) _ HI2.out (by omega) hr hmx).mono ?_
            rintro e w3 ⟨bo3, oo3, co3, rfl, hi3, hr3, hm3, hb3, hlo3⟩
            have HB3 : Hid (Below (w.heap.size + 1) (w.alloc (.cells #[.int .i64 s, .slice (some ⟨b, off, none⟩) gs.length cd, .slice (some ⟨bp, offp, none⟩) ps.length ck] 36)) w3) := HB2.out.trans (hb3.mono (by omega))
            have hz3 : wo.heap.size < w3.heap.size := by have := hb3.size; omega
            have k0 := (hb3.cell (p := ⟨wo.heap.size, 0, none⟩) hz2).trans k0
            have k1 := (hb3.cell (p := ⟨wo.heap.size, 1, none⟩) hz2).trans k1
            obtain ⟨L1, hL1⟩ : ∃ M, M = putL L (yn : Int) := ⟨_, rfl⟩
            rw [← hL1] at hi3 hr3 ⊢
            have HI3 := Lib.hid hi3; clear hi3 hb3
            have HL1 := Lib.hid hL1; clear hL1
            go_wp2
            go_roundw
            case rel =>
              have HF : nbK gs x l (k + 1) = sN ||| 2 ^ yn := by
                rw [HN.out]; simp only [adjG, po, if_true]; simp only [beq_iff_eq, beq_eq_false_iff_ne] at p1 p2
                first | rw [if_pos p2, if_pos p1] | rw [if_pos p2, if_neg p1] | rw [if_neg p2, if_pos p1] | rw [if_neg p2, if_neg p1]
                all_goals simp [setN]
              refine ⟨k + 1, by omega, by go_num, ?_, HB3.out⟩
              rw [HF]
              have HE : pre ++ mem (sN ||| 2 ^ yn) = L1 := by rw [HL1.out, HL.out, put_mem _ HPRE2.out _ _ hy40]
              rw [HE]
              exact ⟨_, _, _, rfl, HI3.out, hr3, hm3, by omega⟩
            case measure => simp [intOf]; omega
          case true.true =>
            go_wp2_with fail
            refine (l8Open_c _ _ _ zn l hz64 hl _).mono ?_
            rintro e w2 ⟨rfl, hb2⟩
            have HB2 : Hid (Below (w.heap.size + 1) (w.alloc (.cells #[.int .i64 s, .slice (some ⟨b, off, none⟩) gs.length cd, .slice (some ⟨bp, offp, none⟩) ps.length ck] 36)) w2) := (HBo.out.alloc (by omega) _).trans (hb2.mono (by simp; omega))
            have HI2 : Hid (IC w2 (some ⟨bo, oo, none⟩) L) := (HO.out.later ((Below.refl _ _).alloc (Nat.le_refl _) _)).later hb2
            have hz2 : wo.heap.size < w2.heap.size := by have := hb2.size; simp at this; omega
            have k0 : w2.cell? ⟨wo.heap.size, 0, none⟩ = some (.int .i64 xn) := by rw [hb2.cell (p := ⟨wo.heap.size, 0, none⟩) (by simp)]; simp [go_sem]
            have k1 : w2.cell? ⟨wo.heap.size, 1, none⟩ = some (.int .i64 yn) := by rw [hb2.cell (p := ⟨wo.heap.size, 1, none⟩) (by simp)]; simp [go_sem]
            clear hb2 hc hf
            rw [po]
            go_wp2_with fail
            refine (l1PutB_c _ _ _ L (yn : Int) _ HI2.out (by omega) hr hmx).mono ?_
            rintro e w3 ⟨bo3, oo3, co3, rfl, hi3, hr3, hm3, hb3, hlo3⟩
            have HB3 : Hid (Below (w.heap.size + 1) (w.alloc (.cells #[.int .i64 s, .slice (some ⟨b, off, none⟩) gs.length cd, .slice (some ⟨bp, offp, none⟩) ps.length ck] 36)) w3) := HB2.out.trans (hb3.mono (by omega))
            have hz3 : wo.heap.size < w3.heap.size := by have := hb3.size; omega
            have k0 := (hb3.cell (p := ⟨wo.heap.size, 0, none⟩) hz2).trans k0
            have k1 := (hb3.cell (p := ⟨wo.heap.size, 1, none⟩) hz2).trans k1
            obtain ⟨L1, hL1⟩ : ∃ M, M = putL L (yn : Int) := ⟨_, rfl⟩
            rw [← hL1] at hi3 hr3 ⊢
            have HI3 := Lib.hid hi3; clear hi3 hb3
            have HL1 := Lib.hid hL1; clear hL1
            have HE1 : Hid (L1 = pre ++ mem (sN ||| 2 ^ yn)) := by show _ = _; rw [HL1.out, HL.out, put_mem _ HPRE2.out _ _ hy40]
            have hL141 : L1.length ≤ 41 := by rw [HE1.out]; exact HML.out _
            go_wp2_with fail
            refine (l1PutB_c _ _ _ L1 (xn : Int) _ HI3.out (by omega) hr3 hm3).mono ?_
            rintro e w4 ⟨bo4, oo4, co4, rfl, hi4, hr4, hm4, hb4, hlo4⟩
            have HB4 : Hid (Below (w.heap.size + 1) (w.alloc (.cells #[.int .i64 s, .slice (some ⟨b, off, none⟩) gs.length cd, .slice (some ⟨bp, offp, none⟩) ps.length ck] 36)) w4) := HB3.out.trans (hb4.mono (by omega))
            have hz4 : wo.heap.size < w4.heap.size := by have := hb4.size; omega
            have k0 := (hb4.cell (p := ⟨wo.heap.size, 0, none⟩) hz3).trans k0
            have k1 := (hb4.cell (p := ⟨wo.heap.size, 1, none⟩) hz3).trans k1
            obtain ⟨L2, hL2⟩ : ∃ M, M = putL L1 (xn : Int) := ⟨_, rfl⟩
            rw [← hL2] at hi4 hr4 ⊢
            have HI4 := Lib.hid hi4; clear hi4 hb4
            have HL2 := Lib.hid hL2; clear hL2
            go_wp2
            go_roundw
            case rel =>
              have HF : nbK gs x l (k + 1) = (sN ||| 2 ^ yn) ||| 2 ^ xn := by
                rw [HN.out]; simp only [adjG, po, if_true]; simp only [beq_iff_eq, beq_eq_false_iff_ne] at p1 p2
                first | rw [if_pos p2, if_pos p1] | rw [if_pos p2, if_neg p1] | rw [if_neg p2, if_pos p1] | rw [if_neg p2, if_neg p1]
                all_goals simp [setN]
              refine ⟨k + 1, by omega, by go_num, ?_, HB4.out⟩
              rw [HF]
              have HE : pre ++ mem ((sN ||| 2 ^ yn) ||| 2 ^ xn) = L2 := by rw [HL2.out, HE1.out, put_mem _ HPRE2.out _ _ hx40]
              rw [HE]
              exact ⟨_, _, _, rfl, HI4.out, hr4, hm4, by omega⟩
            case measure => simp [intOf]; omega
      · obtain rfl : k = gs.length := by omega
        have HE : Hid (actsL ⟨s, gs, ps⟩ x l = L) := by show _ = _; rw [HA.out, HL.out, hsN]
        clear hsN
        go_wp2
        go_ret
        exact ⟨_, rfl, by rw [HE.out]; exact ⟨_, _, _, rfl, HO.out, hr, hmx, by omega⟩, HB.out⟩
  · have HE0 : Hid (pre = [-1]) := by show _ = _; rw [HPRE.out, if_neg]; simp at p0; omega
    go_enter Try.func177, Try.ntmps177
    go_wp2_with (at_builtin; refine wpList_append_own _ rfl _ _ 24 rfl (w.heap.size + 1) 3 i0 (.int .i64 0) 1 8 Try.underlying24 ji jz0 jz1 jz2 rfl (by decide) _ 0 [] rfl (own_empty (heap2b _ _ _ _) (by simp)) ⟨w.heap.size + 2, 0, none⟩ 1 1 [.int .i64 (-1)] rfl rfl ?_ ?_ ?_ ?_ ?_ ?_; (intro j u hu; rcases j with _ | j; (simp at hu; subst hu; simp [go_sem, Addr.add]); (simp at hu)); (simp [Value.oneCell']); (unfold maxLen; omega); omega; (simp; try omega); intro v1 w1 hown1 hgrow1 _)
    have HB1 : Hid (Below (w.heap.size + 1) (w.alloc (.cells #[.int .i64 s, .slice ad gs.length cd, .slice (some ⟨bp, offp, none⟩) ps.length ck] 36)) w1) := ((((Below.refl _ _).alloc (by simp) _).alloc (by simp; try omega) _).grown hgrow1 (by simp; try omega) (fun g hg => by cases hg; simp))
    have HS1 : Hid (SLB w.heap.size w1 v1 pre) := by
      rw [HE0.out]
      obtain ⟨g, c, rfl, hc, hm⟩ := own_some (by simpa using hown1) (by simp)
      have ho1 : w1.ownsRow (w.heap.size + 1) 3 1 (.slice (some ⟨g, 0, none⟩) 1 c) [(-1 : Int)].length (ints [-1]) := by simpa [ints] using hown1
      obtain ⟨a', c', he, _, hi⟩ := (Own.of ho1).ic
      cases he
      exact ⟨g, 0, c, rfl, hi, hc, hm, by have := own_block_lo ho1 (g := g) rfl; omega⟩
    clear hown1 hgrow1
    go_wp2
    go_loopw [7, 8] (fun u i wr => ∃ k : Nat, k ≤ gs.length ∧ i = .int .i64 k ∧ Hid (SLB w.heap.size wr u (pre ++ mem (nbK gs x l k))) ∧ Below (w.heap.size + 1) (w.alloc (.cells #[.int .i64 s, .slice ad gs.length cd, .slice (some ⟨bp, offp, none⟩) ps.length ck] 36)) wr) (fun _ i _ => gs.length - (intOf i).toNat)
    case atStart => exact ⟨0, Nat.zero_le _, rfl, by rw [H0.out]; exact HS1.out, HB1.out⟩
    case round =>
      obtain ⟨wo, rfl⟩ : ∃ wo : World, wo = wr := ⟨_, rfl⟩
      obtain ⟨k, hkl, rfl, HS, hb⟩ := hrel
      obtain ⟨hc, hf, hz⟩ := bcell3 hb
      simp only [World.size_alloc] at hz
      have hz1 : w.heap.size < wo.heap.size := by omega
      have HB : Hid (Below w.heap.size w wo) := (by (repeat (first | exact Below.refl _ _ | apply Below.drew | apply below_drewN | (refine Below.setCell ?_ (by first | omega | (simp; done) | (simp; omega) | (dsimp only; omega)) _) | (refine Below.alloc ?_ (by first | omega | (simp; done) | (simp; omega) | (dsimp only; omega)) _))) : Below w.heap.size w (w.alloc _)).trans (hb.mono (by omega))
      have HBo := Lib.hid hb
      obtain ⟨sN, hsN⟩ : ∃ sN, sN = nbK gs x l k := ⟨_, rfl⟩
      have hL41 := HML.out sN
      obtain ⟨L, hL⟩ : ∃ L, L = pre ++ mem sN := ⟨_, rfl⟩
      rw [← hsN, ← hL] at HS
      rw [← hL] at hL41
      have HL := Lib.hid hL; clear hL
      obtain ⟨bo, oo, co, rfl, ho, hr, hmx, hlo⟩ := HS.out
      have HO := Lib.hid ho; clear ho
      by_cases hlt : k < gs.length
      · obtain ⟨b, off, x0, y0, z0, u0, rfl, HX2, hbs2, e0, e1, e2, e3⟩ := (hd.later HB.out).at k hlt
        obtain ⟨f1, f2, f3, f4, f5, f6, f7⟩ := gate_facts OK.out hlt HX2.out
        dsimp only at f3
        obtain ⟨xn, rfl⟩ := Int.eq_ofNat_of_zero_le f1
        obtain ⟨yn, rfl⟩ := Int.eq_ofNat_of_zero_le (show 0 ≤ y0 by omega)
        obtain ⟨zn, rfl⟩ := Int.eq_ofNat_of_zero_le f4
        have hx40 : xn < 40 := by omega
        have hy40 : yn < 40 := by omega
        have hz64 : zn < 64 := by omega
        have HN : Hid (nbK gs x l (k + 1) = adjG x l sN ((xn : Int), (yn : Int), (zn : Int), u0)) := by show _ = _; rw [nb_step hlt, HX2.out, hsN]
        clear hsN
        cases po : openB ((xn : Int), (yn : Int), (zn : Int), u0) l
        · have HF : Hid (nbK gs x l (k + 1) = sN) := by show _ = _; rw [HN.out]; simp [adjG, po]
          go_wp2_with fail
          refine (l8Open_c _ _ _ zn l hz64 hl _).mono ?_
          rintro e w2 ⟨rfl, hb2⟩
          have HB2 : Hid (Below (w.heap.size + 1) (w.alloc (.cells #[.int .i64 s, .slice (some ⟨b, off, none⟩) gs.length cd, .slice (some ⟨bp, offp, none⟩) ps.length ck] 36)) w2) := (HBo.out.alloc (by omega) _).trans (hb2.mono (by simp; omega))
          have HI2 : Hid (IC w2 (some ⟨bo, oo, none⟩) L) := (HO.out.later ((Below.refl _ _).alloc (Nat.le_refl _) _)).later hb2
          have hz2 : wo.heap.size < w2.heap.size := by have := hb2.size; simp at this; omega
          have k0 : w2.cell? ⟨wo.heap.size, 0, none⟩ = some (.int .i64 xn) := by rw [hb2.cell (p := ⟨wo.heap.size, 0, none⟩) (by simp)]; simp [go_sem]
          have k1 : w2.cell? ⟨wo.heap.size, 1, none⟩ = some (.int .i64 yn) := by rw [hb2.cell (p := ⟨wo.heap.size, 1, none⟩) (by simp)]; simp [go_sem]
          clear hb2 hc hf
          rw [po]
          go_wp2
          go_roundw
          case rel => exact ⟨k + 1, by omega, by go_num, by rw [HF.out, ← HL.out]; exact ⟨_, _, _, rfl, HI2.out, hr, hmx, by omega⟩, HB2.out⟩
          case measure => simp [intOf]; omega
        · cases p1 : ((xn : Int) == (x : Int)) <;> cases p2 : ((yn : Int) == (x : Int))
          case false.false =>
            go_wp2_with fail
            refine (l8Open_c _ _ _ zn l hz64 hl _).mono ?_
            rintro e w2 ⟨rfl, hb2⟩
            have HB2 : Hid (Below (w.heap.size + 1) (w.alloc (.cells #[.int .i64 s, .slice (some ⟨b, off, none⟩) gs.length cd, .slice (some ⟨bp, offp, none⟩) ps.length ck] 36)) w2) := (HBo.out.alloc (by omega) _).trans (hb2.mono (by simp; omega))
            have HI2 : Hid (IC w2 (some ⟨bo, oo, none⟩) L) := (HO.out.later ((Below.refl _ _).alloc (Nat.le_refl _) _)).later hb2
            have hz2 : wo.heap.size < w2.heap.size := by have := hb2.size; simp at this; omega
            have k0 : w2.cell? ⟨wo.heap.size, 0, none⟩ = some (.int .i64 xn) := by rw [hb2.cell (p := ⟨wo.heap.size, 0, none⟩) (by simp)]; simp [go_sem]
            have k1 : w2.cell? ⟨wo.heap.size, 1, none⟩ = some (.int .i64 yn) := by rw [hb2.cell (p := ⟨wo.heap.size, 1, none⟩) (by simp)]; simp [go_sem]
            clear hb2 hc hf
            rw [po]
            go_wp2
            go_roundw
            case rel =>
              have HF : nbK gs x l (k + 1) = sN := by
                rw [HN.out]; simp only [adjG, po, if_true]; simp only [beq_iff_eq, beq_eq_false_iff_ne] at p1 p2
                first | rw [if_pos p2, if_pos p1] | rw [if_pos p2, if_neg p1] | rw [if_neg p2, if_pos p1] | rw [if_neg p2, if_neg p1]
                all_goals simp [setN]
              refine ⟨k + 1, by omega, by go_num, ?_, HB2.out⟩
              rw [HF]
              have HE : pre ++ mem (sN) = L := by exact HL.out.symm
              rw [HE]
              exact ⟨_, _, _, rfl, HI2.out, hr, hmx, by omega⟩
            case measure => simp [intOf]; omega
          case false.true =>
            go_wp2_with fail
            refine (l8Open_c _ _ _ zn l hz64 hl _).mono ?_
            rintro e w2 ⟨rfl, hb2⟩
            have HB2 : Hid (Below (w.heap.size + 1) (w.alloc (.cells #[.int .i64 s, .slice (some ⟨b, off, none⟩) gs.length cd, .slice (some ⟨bp, offp, none⟩) ps.length ck] 36)) w2) := (HBo.out.alloc (by omega) _).trans (hb2.mono (by simp; omega))
            have HI2 : Hid (IC w2 (some ⟨bo, oo, none⟩) L) := (HO.out.later ((Below.refl _ _).alloc (Nat.le_refl _) _)).later hb2
            have hz2 : wo.heap.size < w2.heap.size := by have := hb2.size; simp at this; omega
            have k0 : w2.cell? ⟨wo.heap.size, 0, none⟩ = some (.int .i64 xn) := by rw [hb2.cell (p := ⟨wo.heap.size, 0, none⟩) (by simp)]; simp [go_sem]
            have k1 : w2.cell? ⟨wo.heap.size, 1, none⟩ = some (.int .i64 yn) := by rw [hb2.cell (p := ⟨wo.heap.size, 1, none⟩) (by simp)]; simp [go_sem]
            clear hb2 hc hf
            rw [po]
            have h41 := hL41
            go_wp2_with fail
            refine (l1PutB_c _ _ _ L (xn : Int) _ HI2.out (by omega) hr hmx).mono ?_
            rintro e w3 ⟨bo3, oo3, co3, rfl, hi3, hr3, hm3, hb3, hlo3⟩
            have HB3 : Hid (Below (w.heap.size + 1) (w.alloc (.cells #[.int .i64 s, .slice (some ⟨b, off, none⟩) gs.length cd, .slice (some ⟨bp, offp, none⟩) ps.length ck] 36)) w3) := HB2.out.trans (hb3.mono (by omega))
            have hz3 : wo.heap.size < w3.heap.size := by have := hb3.size; omega
            have k0 := (hb3.cell (p := ⟨wo.heap.size, 0, none⟩) hz2).trans k0
            have k1 := (hb3.cell (p := ⟨wo.heap.size, 1, none⟩) hz2).trans k1
            obtain ⟨L1, hL1⟩ : ∃ M, M = putL L (xn : Int) := ⟨_, rfl⟩
            rw [← hL1] at hi3 hr3 ⊢
            have HI3 := Lib.hid hi3; clear hi3 hb3
            have HL1 := Lib.hid hL1; clear hL1
            go_wp2
            go_roundw
            case rel =>
              have HF : nbK gs x l (k + 1) = sN ||| 2 ^ xn := by
                rw [HN.out]; simp only [adjG, po, if_true]; simp only [beq_iff_eq, beq_eq_false_iff_ne] at p1 p2
                first | rw [if_pos p2, if_pos p1] | rw [if_pos p2, if_neg p1] | rw [if_neg p2, if_pos p1] | rw [if_neg p2, if_neg p1]
                all_goals simp [setN]
              refine ⟨k + 1, by omega, by go_num, ?_, HB3.out⟩
              rw [HF]
              have HE : pre ++ mem (sN ||| 2 ^ xn) = L1 := by rw [HL1.out, HL.out, put_mem _ HPRE2.out _ _ hx40]
              rw [HE]
              exact ⟨_, _, _, rfl, HI3.out, hr3, hm3, by omega⟩
            case measure => simp [intOf]; omega
          case true.false =>
            go_wp2_with fail
            refine (l8Open_c _ _ _ zn l hz64 hl _).mono ?_
            rintro e w2 ⟨rfl, hb2⟩
            have HB2 : Hid (Below (w.heap.size + 1) (w.alloc (.cells #[.int .i64 s, .slice (some ⟨b, off, none⟩) gs.length cd, .slice (some ⟨bp, offp, none⟩) ps.length ck] 36)) w2) := (HBo.out.alloc (by omega) _).trans (hb2.mono (by simp; omega))
            have HI2 : Hid (IC w2 (some ⟨bo, oo, none⟩) L) := (HO.out.later ((Below.refl _ _).alloc (Nat.le_refl _) _)).later hb2
            have hz2 : wo.heap.size < w2.heap.size := by have := hb2.size; simp at this; omega
            have k0 : w2.cell? ⟨wo.heap.size, 0, none⟩ = some (.int .i64 xn) := by rw [hb2.cell (p := ⟨wo.heap.size, 0, none⟩) (by simp)]; simp [go_sem]
            have k1 : w2.cell? ⟨wo.heap.size, 1, none⟩ = some (.int .i64 yn) := by rw [hb2.cell (p := ⟨wo.heap.size, 1, none⟩) (by simp)]; simp [go_sem]
            clear hb2 hc hf
            rw [po]
            go_wp2_with fail
            refine (l1PutB_c _ _ _ L (yn : Int) _ HI2.out (by omega) hr hmx).mono ?_
            rintro e w3 ⟨bo3, oo3, co3, rfl, hi3, hr3, hm3, hb3, hlo3⟩
            have HB3 : Hid (Below (w.heap.size + 1) (w.alloc (.cells #[.int .i64 s, .slice (some ⟨b, off, none⟩) gs.length cd, .slice (some ⟨bp, offp, none⟩) ps.length ck] 36)) w3) := HB2.out.trans (hb3.mono (by omega))
            have hz3 : wo.heap.size < w3.heap.size := by have := hb3.size; omega
            have k0 := (hb3.cell (p := ⟨wo.heap.size, 0, none⟩) hz2).trans k0
            have k1 := (hb3.cell (p := ⟨wo.heap.size, 1, none⟩) hz2).trans k1
            obtain ⟨L1, hL1⟩ : ∃ M, M = putL L (yn : Int) := ⟨_, rfl⟩
            rw [← hL1] at hi3 hr3 ⊢
            have HI3 := Lib.hid hi3; clear hi3 hb3
            have HL1 := Lib.hid hL1; clear hL1
            go_wp2
            go_roundw
            case rel =>
              have HF : nbK gs x l (k + 1) = sN ||| 2 ^ yn := by
                rw [HN.out]; simp only [adjG, po, if_true]; simp only [beq_iff_eq, beq_eq_false_iff_ne] at p1 p2
                first | rw [if_pos p2, if_pos p1] | rw [if_pos p2, if_neg p1] | rw [if_neg p2, if_pos p1] | rw [if_neg p2, if_neg p1]
                all_goals simp [setN]
              refine ⟨k + 1, by omega, by go_num, ?_, HB3.out⟩
              rw [HF]
              have HE : pre ++ mem (sN ||| 2 ^ yn) = L1 := by rw [HL1.out, HL.out, put_mem _ HPRE2.out _ _ hy40]
              rw [HE]
              exact ⟨_, _, _, rfl, HI3.out, hr3, hm3, by omega⟩
            case measure => simp [intOf]; omega
          case true.true =>
            go_wp2_with fail
            refine (l8Open_c _ _ _ zn l hz64 hl _).mono ?_
            rintro e w2 ⟨rfl, hb2⟩
            have HB2 : Hid (Below (w.heap.size + 1) (w.alloc (.cells #[.int .i64 s, .slice (some ⟨b, off, none⟩) gs.length cd, .slice (some ⟨bp, offp, none⟩) ps.length ck] 36)) w2) := (HBo.out.alloc (by omega) _).trans (hb2.mono (by simp; omega))
            have HI2 : Hid (IC w2 (some ⟨bo, oo, none⟩) L) := (HO.out.later ((Below.refl _ _).alloc (Nat.le_refl _) _)).later hb2
            have hz2 : wo.heap.size < w2.heap.size := by have := hb2.size; simp at this; omega
            have k0 : w2.cell? ⟨wo.heap.size, 0, none⟩ = some (.int .i64 xn) := by rw [hb2.cell (p := ⟨wo.heap.size, 0, none⟩) (by simp)]; simp [go_sem]
            have k1 : w2.cell? ⟨wo.heap.size, 1, none⟩ = some (.int .i64 yn) := by rw [hb2.cell (p := ⟨wo.heap.size, 1, none⟩) (by simp)]; simp [go_sem]
            clear hb2 hc hf
            rw [po]
            go_wp2_with fail
            refine (l1PutB_c _ _ _ L (yn : Int) _ HI2.out (by omega) hr hmx).mono ?_
            rintro e w3 ⟨bo3, oo3, co3, rfl, hi3, hr3, hm3, hb3, hlo3⟩
            have HB3 : Hid (Below (w.heap.size + 1) (w.alloc (.cells #[.int .i64 s, .slice (some ⟨b, off, none⟩) gs.length cd, .slice (some ⟨bp, offp, none⟩) ps.length ck] 36)) w3) := HB2.out.trans (hb3.mono (by omega))
            have hz3 : wo.heap.size < w3.heap.size := by have := hb3.size; omega
            have k0 := (hb3.cell (p := ⟨wo.heap.size, 0, none⟩) hz2).trans k0
            have k1 := (hb3.cell (p := ⟨wo.heap.size, 1, none⟩) hz2).trans k1
            obtain ⟨L1, hL1⟩ : ∃ M, M = putL L (yn : Int) := ⟨_, rfl⟩
            rw [← hL1] at hi3 hr3 ⊢
            have HI3 := Lib.hid hi3; clear hi3 hb3
            have HL1 := Lib.hid hL1; clear hL1
            have HE1 : Hid (L1 = pre ++ mem (sN ||| 2 ^ yn)) := by show _ = _; rw [HL1.out, HL.out, put_mem _ HPRE2.out _ _ hy40]
            have hL141 : L1.length ≤ 41 := by rw [HE1.out]; exact HML.out _
            go_wp2_with fail
            refine (l1PutB_c _ _ _ L1 (xn : Int) _ HI3.out (by omega) hr3 hm3).mono ?_
            rintro e w4 ⟨bo4, oo4, co4, rfl, hi4, hr4, hm4, hb4, hlo4⟩
            have HB4 : Hid (Below (w.heap.size + 1) (w.alloc (.cells #[.int .i64 s, .slice (some ⟨b, off, none⟩) gs.length cd, .slice (some ⟨bp, offp, none⟩) ps.length ck] 36)) w4) := HB3.out.trans (hb4.mono (by omega))
            have hz4 : wo.heap.size < w4.heap.size := by have := hb4.size; omega
            have k0 := (hb4.cell (p := ⟨wo.heap.size, 0, none⟩) hz3).trans k0
            have k1 := (hb4.cell (p := ⟨wo.heap.size, 1, none⟩) hz3).trans k1
            obtain ⟨L2, hL2⟩ : ∃ M, M = putL L1 (xn : Int) := ⟨_, rfl⟩
            rw [← hL2] at hi4 hr4 ⊢
            have HI4 := Lib.hid hi4; clear hi4 hb4
            have HL2 := Lib.hid hL2; clear hL2
            go_wp2
            go_roundw
            case rel =>
              have HF : nbK gs x l (k + 1) = (sN ||| 2 ^ yn) ||| 2 ^ xn := by
                rw [HN.out]; simp only [adjG, po, if_true]; simp only [beq_iff_eq, beq_eq_false_iff_ne] at p1 p2
                first | rw [if_pos p2, if_pos p1] | rw [if_pos p2, if_neg p1] | rw [if_neg p2, if_pos p1] | rw [if_neg p2, if_neg p1]
                all_goals simp [setN]
              refine ⟨k + 1, by omega, by go_num, ?_, HB4.out⟩
              rw [HF]
              have HE : pre ++ mem ((sN ||| 2 ^ yn) ||| 2 ^ xn) = L2 := by rw [HL2.out, HE1.out, put_mem _ HPRE2.out _ _ hx40]
              rw [HE]
              exact ⟨_, _, _, rfl, HI4.out, hr4, hm4, by omega⟩
            case measure => simp [intOf]; omega
      · obtain rfl : k = gs.length := by omega
        have HE : Hid (actsL ⟨s, gs, ps⟩ x l = L) := by show _ = _; rw [HA.out, HL.out, hsN]
        clear hsN
        go_wp2
        go_ret
        exact ⟨_, rfl, by rw [HE.out]; exact ⟨_, _, _, rfl, HO.out, hr, hmx, by omega⟩, HB.out⟩
theorem l8Acts_c (v : Value) (m : Wk) (x l : Nat) (w : World) (hm : WkAt w v m) (ok : WkOk m) (hx : (x : Int) < m.size) (hl : l < 64) :
    Calls Try.prog 177 #[v, .int .i64 x, .int .i64 l] w fun e w' => ∃ u, e = .returned u ∧ SL w' u (actsL m x l) ∧ Below w.heap.size w w' :=
  (l8ActsB_c v m x l w hm ok hx hl).mono fun _ _ ⟨u, h1, ⟨b, off, c, h2, h3, h4, h5, _⟩, h6⟩ => ⟨u, h1, ⟨b, off, c, h2, h3, h4, h5⟩, h6⟩
end Go.Proofs.Ytmilpahggceemaa

namespace Go.Proofs.Ytmilpahggceemaa
open Go.RowKit Go.KD
attribute [local go_sem] later_cell later_frozen
theorem own_room {w : World} {base : Nat} {e : TypeId} {size n m : Nat} {xs : List Value} {a : Option Addr} (h : w.ownsRow base e size (.slice a m n) m xs) : m ≤ n := by
  rcases h.2 with ⟨h, _⟩ | ⟨g, cap, cur, hv, _, _, h, _⟩
  · cases h; exact Nat.le_refl _
  · cases hv; exact h
set_option maxRecDepth 100000 in
set_option maxHeartbeats 4000000 in
theorem concat2_c (cb : Nat) (a1 a2 : Option Addr) (c1 c2 : Nat) (A B : List Int) (w : World) (q0 : w.cell? ⟨cb, 0, none⟩ = some (.slice a1 A.length c1)) (q1 : w.cell? ⟨cb, 1, none⟩ = some (.slice a2 B.length c2)) (h1 : IC w a1 A) (h2 : IC w a2 B) (n1 : 0 < A.length) (m1 : A.length ≤ 1000) (m2 : B.length ≤ 1000) (hcb : cb < w.heap.size) :
    Calls Try.prog 275 #[.slice (some ⟨cb, 0, none⟩) 2 2] w fun e w' => ∃ v, e = .returned v ∧ w'.ownsRow w.heap.size 3 1 v (A ++ B).length (ints (A ++ B)) ∧ Below w.heap.size w w' := by
  obtain ⟨i0, hi, hz0, hz1, hz2⟩ := info_parts infoI
  have d1 : decide ((A.length : Int) < 0) = false := by simp
  have d2 : decide ((A.length : Int) + (B.length : Int) < 0) = false := by simp; omega
  go_enter Try.func275, Try.ntmps275
  go_wp2
  refine wp_loop_rounds 3 ?_
  (rw [rounds_succ]; go_wp2)
  (rw [rounds_succ]; go_wp2)
  (rw [rounds_succ]; go_wp2_with fail)
  refine (grow_c (A.length + B.length) (by omega) (by omega) _).mono ?_
  rintro e w1 ⟨v1, rfl, ho1, hb1⟩
  have HO1 := Lib.hid ho1; clear ho1
  have HB1 : Hid (Below w.heap.size w w1) := hb1
  have hzz := hb1.size
  have p0 : w1.cell? ⟨cb, 0, none⟩ = some (.slice a1 A.length c1) := (hb1.cell (p := ⟨cb, 0, none⟩) hcb).trans q0
  have p1 : w1.cell? ⟨cb, 1, none⟩ = some (.slice a2 B.length c2) := (hb1.cell (p := ⟨cb, 1, none⟩) hcb).trans q1
  clear hb1 d1 d2
  have key : ∀ (a : Option Addr) (L : List Int) (W : World), IC W a L → 0 < L.length → ∃ ad, a = some ad ∧ ∀ j u, (ints L)[j]? = some u → W.cell? (ad.add j) = some u := by
    intro a L W h hl
    obtain ⟨b, off, hb, -, -⟩ := h 0 hl
    refine ⟨⟨b, off, none⟩, hb, fun j u hu => ?_⟩
    have hj : j < L.length := by
      rcases Nat.lt_or_ge j L.length with h | h
      · exact h
      · rw [List.getElem?_eq_none (by simpa using h)] at hu; cases hu
    obtain ⟨b', off', hb', -, hc⟩ := h j hj
    rw [hb] at hb'; cases hb'
    rw [add_at rfl, hc, ← hu, ints, List.getElem?_map, List.getElem?_eq_getElem hj, getElem!_pos L j hj]
    rfl
  obtain ⟨ad1, rfl, hn1⟩ := key _ _ _ (h1.later HB1.out) n1
  have HN1 := Lib.hid hn1; clear hn1
  go_wp2
  refine wp_loop_rounds 3 ?_
  (rw [rounds_succ]; go_wp2_with (at_builtin; refine wpList_append_own _ rfl _ _ 24 rfl w.heap.size 3 i0 (.int .i64 0) 1 8 Try.underlying24 hi hz0 hz1 hz2 rfl (by decide) _ _ _ rfl HO1.out ad1 A.length c1 (ints A) rfl ?_ ?_ ?_ ?_ ?_ ?_ ?_; (simp [length_ints]); (exact HN1.out); (intro u hu; simp only [ints, List.mem_map] at hu; obtain ⟨x, _, rfl⟩ := hu; rfl); (unfold maxLen; omega); omega; (exact hzz); intro v2 w2 hown2 hgrow2 _))
  have HO2 := Lib.hid hown2; clear hown2
  have HB2 : Hid (Below w.heap.size w w2) := HB1.out.grown hgrow2 hzz (fun g hg => own_block_lo HO1.out hg)
  have r1 : w2.cell? ⟨cb, 1, none⟩ = some (.slice a2 B.length c2) := (HB2.out.cell (p := ⟨cb, 1, none⟩) hcb).trans q1
  have hz22 := HB2.out.size
  clear hgrow2
  rcases Nat.eq_zero_or_pos B.length with hB | hB
  · obtain rfl : B = [] := List.length_eq_zero_iff.1 hB
    obtain ⟨g2, cap2, rfl, -, -⟩ := HO2.out.form (by omega)
    have hroom := own_room HO2.out
    simp only [List.length_nil] at r1
    cases a2 with
    | none =>
      (rw [rounds_succ]; go_wp2)
      (rw [rounds_succ]; go_wp2_with fail)
      go_ret
      refine ⟨_, rfl, ?_, HB2.out⟩
      have := HO2.out
      simpa [ints] using this
    | some ad2 =>
      (rw [rounds_succ]; go_wp2_with (at_builtin; refine wpList_append_own _ rfl _ _ 24 rfl w.heap.size 3 i0 (.int .i64 0) 1 8 Try.underlying24 hi hz0 hz1 hz2 rfl (by decide) _ _ _ rfl HO2.out ad2 0 c2 [] rfl ?_ ?_ ?_ ?_ ?_ ?_ ?_; (simp); (intro j u hu; simp at hu); (intro u hu; simp at hu); (unfold maxLen; omega); omega; (exact hz22); intro v3 w3 hown3 hgrow3 _))
      have HO3 := Lib.hid hown3; clear hown3
      have HB3 : Hid (Below w.heap.size w w3) := HB2.out.grown hgrow3 hz22 (fun g hg => own_block_lo HO2.out hg)
      (rw [rounds_succ]; go_wp2_with fail)
      go_ret
      refine ⟨_, rfl, ?_, HB3.out⟩
      have := HO3.out
      simpa [ints] using this
  · obtain ⟨ad2, rfl, hn2⟩ := key _ _ _ (h2.later HB2.out) hB
    have HN2 := Lib.hid hn2; clear hn2
    clear key
    (rw [rounds_succ]; go_wp2_with (at_builtin; refine wpList_append_own _ rfl _ _ 24 rfl w.heap.size 3 i0 (.int .i64 0) 1 8 Try.underlying24 hi hz0 hz1 hz2 rfl (by decide) _ _ _ rfl HO2.out ad2 B.length c2 (ints B) rfl ?_ ?_ ?_ ?_ ?_ ?_ ?_; (simp [length_ints]); (exact HN2.out); (intro u hu; simp only [ints, List.mem_map] at hu; obtain ⟨x, _, rfl⟩ := hu; rfl); (unfold maxLen; omega); omega; (exact hz22); intro v3 w3 hown3 hgrow3 _))
    have HO3 := Lib.hid hown3; clear hown3
    have HB3 : Hid (Below w.heap.size w w3) := HB2.out.grown hgrow3 hz22 (fun g hg => own_block_lo HO2.out hg)
    (rw [rounds_succ]; go_wp2_with fail)
    go_ret
    refine ⟨_, rfl, ?_, HB3.out⟩
    have := HO3.out
    simpa [ints] using this
end Go.Proofs.Ytmilpahggceemaa

namespace Go.Proofs.Ytmilpahggceemaa
open Go.RowKit Go.KD
attribute [local go_sem] later_cell later_frozen
set_option maxHeartbeats 4000000 in
theorem acts_c (v : Value) (m : Wk) (x l : Nat) (w : World) (hm : WkAt w v m) (ok : WkOk m) (hx : (x : Int) < m.size) (hl : l < 64) :
    Calls Try.prog 163 #[v, .int .i64 x, .int .i64 l] w fun e w' => ∃ u, e = .returned u ∧ w'.ownsRow w.heap.size 3 1 u (actsL m x l).length (ints (actsL m x l)) ∧ Below w.heap.size w w' := by
  have hM := hm
  obtain ⟨⟨ad, cd, ak, ck, rfl, hd, hk'⟩, nd, nk⟩ := hM
  have hng := ok.ng
  have hnp : x < m.pulls.length := by have := ok.np; omega
  have NL := Lib.hid (nb_lt ok x l)
  obtain ⟨s, gs, ps⟩ := m
  dsimp only at *
  have OK := Lib.hid ok; clear ok
  have hs2 : s ≤ 12 := OK.out.s2
  have hx12 : x < 12 := by omega
  go_enter Try.func163, Try.ntmps163
  go_wp2
  go_loopw [7, 13] (fun n i wr => ∃ k : Nat, k ≤ gs.length ∧ i = .int .i64 k ∧ n = .int .i64 (nbK gs x l k) ∧ Below (w.heap.size + 1) (w.alloc (.cells #[.int .i64 s, .slice ad gs.length cd, .slice ak ps.length ck] 36)) wr) (fun _ i _ => gs.length - (intOf i).toNat)
  case atStart => exact ⟨0, Nat.zero_le _, rfl, rfl, Below.refl _ _⟩
  case round =>
    obtain ⟨wo, rfl⟩ : ∃ wo : World, wo = wr := ⟨_, rfl⟩
    obtain ⟨k, hkl, rfl, rfl, hb⟩ := hrel
    obtain ⟨hc, hf, hz⟩ := bcell3 hb
    simp only [World.size_alloc] at hz
    have hz1 : w.heap.size < wo.heap.size := by omega
    have HB : Hid (Below w.heap.size w wo) := (by (repeat (first | exact Below.refl _ _ | apply Below.drew | apply below_drewN | (refine Below.setCell ?_ (by first | omega | (simp; done) | (simp; omega) | (dsimp only; omega)) _) | (refine Below.alloc ?_ (by first | omega | (simp; done) | (simp; omega) | (dsimp only; omega)) _))) : Below w.heap.size w (w.alloc _)).trans (hb.mono (by omega))
    have hn := NL.out k hkl
    have HBo := Lib.hid hb
    by_cases hlt : k < gs.length
    · obtain ⟨b, off, x0, y0, z0, u0, rfl, HX, hbs, e0, e1, e2, e3⟩ := (hd.later HB.out).at k hlt
      obtain ⟨f1, f2, f3, f4, f5, f6, f7⟩ := gate_facts OK.out hlt HX.out
      dsimp only at f3
      obtain ⟨xn, rfl⟩ := Int.eq_ofNat_of_zero_le f1
      obtain ⟨yn, rfl⟩ := Int.eq_ofNat_of_zero_le (show 0 ≤ y0 by omega)
      obtain ⟨p, HP, ep, hp⟩ := shl_at xn (by omega)
      obtain ⟨q, HQ, eq, hq⟩ := shl_at yn (by omega)
      have hx0 : (xn : Int) < 12 := by omega
      have hy0 : (yn : Int) < 12 := by omega
      obtain ⟨sN, hsN⟩ : ∃ sN, sN = nbK gs x l k := ⟨_, rfl⟩
      rw [← hsN] at hn ⊢
      have HN : Hid (nbK gs x l (k + 1) = adjG x l sN ((xn : Int), (yn : Int), z0, u0)) := by show _ = _; rw [nb_step hlt, HX.out, hsN]
      clear hsN
      obtain ⟨s1, hs1⟩ : ∃ s1, s1 = sN ||| q := ⟨_, rfl⟩
      have hs1l : s1 < 4096 := by rw [hs1]; exact Nat.or_lt_two_pow (n := 12) hn hq
      have ea : bits .or .i64 (sN : Int) (q : Int) = (s1 : Int) := by rw [hs1]; exact i64_or sN q (by omega) (by omega)
      have eb : bits .or .i64 (sN : Int) (p : Int) = ((sN ||| p : Nat) : Int) := i64_or sN p (by omega) (by omega)
      have ec : bits .or .i64 (s1 : Int) (p : Int) = ((s1 ||| p : Nat) : Int) := i64_or s1 p (by omega) (by omega)
      have HS1 := Lib.hid hs1; clear hs1
      cases po : openB ((xn : Int), (yn : Int), z0, u0) l
      · have HF : Hid (nbK gs x l (k + 1) = sN) := by show _ = _; rw [HN.out]; simp [adjG, po]
        go_wp2_with fail
        refine (isOpen_c _ ⟨s, gs, ps⟩ _ (hm.later (HB.out.alloc (by omega) _)) OK.out k l hlt hl _ HX).mono ?_
        rintro e w2 ⟨rfl, hb2⟩
        have HB2 : Hid (Below (w.heap.size + 1) (w.alloc (.cells #[.int .i64 s, .slice (some ⟨b, off, none⟩) gs.length cd, .slice ak ps.length ck] 36)) w2) := (HBo.out.alloc (by omega) _).trans (hb2.mono (by simp; omega))
        rw [po]
        go_wp2
        go_roundw
        case rel => exact ⟨k + 1, by omega, by go_num, by rw [HF.out], HB2.out⟩
        case measure => simp [intOf]; omega
      · cases p1 : ((xn : Int) == (x : Int)) <;> cases p2 : ((yn : Int) == (x : Int))
        all_goals
          have HF := HN
          go_wp2_with fail
          refine (isOpen_c _ ⟨s, gs, ps⟩ _ (hm.later (HB.out.alloc (by omega) _)) OK.out k l hlt hl _ HX).mono ?_
          rintro e w2 ⟨rfl, hb2⟩
          have HB2 : Hid (Below (w.heap.size + 1) (w.alloc (.cells #[.int .i64 s, .slice (some ⟨b, off, none⟩) gs.length cd, .slice ak ps.length ck] 36)) w2) := (HBo.out.alloc (by omega) _).trans (hb2.mono (by simp; omega))
          have k0 : w2.cell? ⟨wo.heap.size, 0, none⟩ = some (.int .i64 xn) := by rw [hb2.cell (p := ⟨wo.heap.size, 0, none⟩) (by simp)]; simp [go_sem]
          have k1 : w2.cell? ⟨wo.heap.size, 1, none⟩ = some (.int .i64 yn) := by rw [hb2.cell (p := ⟨wo.heap.size, 1, none⟩) (by simp)]; simp [go_sem]
          clear hb2 hc hf
          rw [po]
          go_wp2
          go_roundw
          case rel =>
            refine ⟨k + 1, by omega, by go_num, ?_, HB2.out⟩
            rw [HF.out]
            simp only [beq_iff_eq, beq_eq_false_iff_ne] at p1 p2
            have key : adjG (x : Int) l sN ((xn : Int), (yn : Int), z0, u0) = (if (yn : Int) = x then setN (if (xn : Int) = x then setN sN yn else sN) xn else (if (xn : Int) = x then setN sN yn else sN)) := by simp only [adjG, po, if_true]
            rw [key]
            first | rw [if_pos p2, if_pos p1] | rw [if_pos p2, if_neg p1] | rw [if_neg p2, if_pos p1] | rw [if_neg p2, if_neg p1]
            all_goals simp [setN, HS1.out, HP.out, HQ.out]
          case measure => simp [intOf]; omega
    · obtain rfl : k = gs.length := by omega
      obtain ⟨b, off, pv, rfl, HX, hbs, e0⟩ := (hk'.later HB.out).at x hnp
      have hn30 : nbK gs x l gs.length < 1073741824 := by omega
      obtain ⟨sN, hsN⟩ : ∃ sN, sN = nbK gs x l gs.length := ⟨_, rfl⟩
      rw [← hsN] at hn hn30 ⊢
      cases p0 : (pv != 0)
      · have HR : Hid (actsL ⟨s, gs, ps⟩ x l = mem sN) := by
          show _ = _
          simp only [bne_eq_false_iff_eq] at p0
          simp [actsL, HX.out, p0, hsN]
        clear hsN
        go_wp2_with fail
        refine (members_c sN hn30 _).mono ?_
        rintro e w2 ⟨v2, rfl, ho2, hb2⟩
        go_wp2_with fail
        go_ret
        exact ⟨_, rfl, by rw [HR.out]; exact (Own.mono (Own.of ho2) HB.out.size (Nat.le_refl _)).row, below_then HB.out hb2⟩
      · have HR : Hid (actsL ⟨s, gs, ps⟩ x l = [-1] ++ mem sN) := by
          show _ = _
          simp only [bne_iff_ne] at p0
          simp [actsL, HX.out, p0, hsN]
        clear hsN
        have hml : (mem sN).length ≤ 40 := by rw [mem_eq]; exact memK_len _ _
        go_wp2_with fail
        refine (members_c sN hn30 _).mono ?_
        rintro e w2 ⟨v2, rfl, ho2, hb2⟩
        obtain ⟨a2, c2, rfl, -, hc2⟩ := (Own.of ho2).ic
        have HB2 : Hid (Below w.heap.size w w2) := below_then (HB.out.alloc (by omega) _) hb2
        have i1 : IC w2 (some ⟨wo.heap.size, 0, none⟩) [-1] := by
          intro j hj
          have : j = 0 := by simpa using hj
          subst this
          exact ⟨_, _, rfl, by have := hb2.size; simp at this; omega, by rw [hb2.cell (p := ⟨wo.heap.size, 0 + 0, none⟩) (by simp)]; simp [go_sem]⟩
        have hz2 := HB2.out.size
        clear hb2 ho2
        go_wp2_with fail
        refine (concat2_c w2.heap.size _ _ 1 c2 [-1] (mem sN) _ (by simp [go_sem]) (by simp [go_sem]) (i1.later ((Below.refl _ _).alloc (Nat.le_refl _) _)) (hc2.later ((Below.refl _ _).alloc (Nat.le_refl _) _)) (by simp) (by simp) (by omega) (by simp)).mono ?_
        rintro e w4 ⟨v4, rfl, ho4, hb4⟩
        go_wp2_with fail
        go_ret
        exact ⟨_, rfl, by rw [HR.out]; exact (Own.mono (Own.of ho4) (by have := HB2.out.size; simp; omega) (Nat.le_refl _)).row, below_then (HB2.out.alloc hz2 _) hb4⟩
end Go.Proofs.Ytmilpahggceemaa

namespace Go.KD
noncomputable def pActsAt (m : Wk) (x l : Int) : List Int × Bool := if visitB m x l then (actsL m x l, true) else ([], false)
theorem actsL_len (m : Wk) (x l : Int) : (actsL m x l).length ≤ 41 := by
  have := memK_len (nbK m.gates x l m.gates.length) 40
  unfold actsL
  rw [List.length_append, mem_eq]
  split <;> simp <;> omega
theorem pActsAt_len (m : Wk) (x l : Int) : (pActsAt m x l).1.length ≤ 1000000 := by
  have := actsL_len m x l
  unfold pActsAt; split
  · show (actsL m x l).length ≤ _; omega
  · simp
theorem visit_parts {m : Wk} {x l : Int} (h : visitB m x l = true) : WkOk m ∧ ∃ xn ln : Nat, x = xn ∧ l = ln ∧ (xn : Int) < m.size ∧ ln < 64 := by
  simp only [visitB, Bool.and_eq_true] at h
  obtain ⟨⟨h1, h2⟩, h3⟩ := h
  obtain ⟨x0, x1⟩ := inB_true.1 h2
  obtain ⟨l0, l1⟩ := setB_true.1 h3
  obtain ⟨xn, rfl⟩ := Int.eq_ofNat_of_zero_le x0
  obtain ⟨ln, rfl⟩ := Int.eq_ofNat_of_zero_le l0
  exact ⟨worksB_true.1 h1, xn, ln, rfl, rfl, by omega, by omega⟩
end Go.KD
namespace Go.Proofs.Ytmilpahggceemaa
open Go.RowKit Go.KD
attribute [local go_sem] later_cell later_frozen
theorem specActsAt_c (v : Value) (m : Wk) (x l : Int) (w : World) (R : List Int) (b : Bool) (hp : pActsAt m x l = (R, b)) (hm : WkAt w v m) (wx : wfI x) (wl : wfI l) :
    Calls Try.prog 61 #[v, .int .i64 x, .int .i64 l] w fun e w' => ∃ aw cw, e = .returned (.tuple #[.slice aw R.length cw, .bool b]) ∧ IC w' aw R ∧ Below w.heap.size w w' := by
  have hM := hm
  obtain ⟨⟨ad, cd, ak, ck, rfl, hd, hk'⟩, nd, nk⟩ := hM
  cases g : visitB m x l
  · simp only [pActsAt, g] at hp
    cases hp
    go_enter Try.func61, Try.ntmps61
    go_wp2_with fail
    refine (l8Visit_c _ m _ _ _ (hm.later (by (repeat (first | exact Below.refl _ _ | apply Below.drew | apply below_drewN | (refine Below.setCell ?_ (by first | omega | (simp; done) | (simp; omega) | (dsimp only; omega)) _) | (refine Below.alloc ?_ (by first | omega | (simp; done) | (simp; omega) | (dsimp only; omega)) _)))))).mono ?_
    rintro e w1 ⟨rfl, hb1⟩
    have HB1 : Hid (Below w.heap.size w w1) := below_then (by (repeat (first | exact Below.refl _ _ | apply Below.drew | apply below_drewN | (refine Below.setCell ?_ (by first | omega | (simp; done) | (simp; omega) | (dsimp only; omega)) _) | (refine Below.alloc ?_ (by first | omega | (simp; done) | (simp; omega) | (dsimp only; omega)) _)))) hb1
    rw [g]
    go_wp2_with fail
    go_ret2
    exact ⟨_, _, rfl, fun k hk => absurd hk (Nat.not_lt_zero k), HB1.out.alloc HB1.out.size _⟩
  · obtain ⟨ok, xn, ln, rfl, rfl, hx, hl⟩ := visit_parts g
    simp only [pActsAt, g, if_true] at hp
    cases hp
    have OK := Lib.hid ok; clear ok
    go_enter Try.func61, Try.ntmps61
    go_wp2_with fail
    refine (l8Visit_c _ m _ _ _ (hm.later (by (repeat (first | exact Below.refl _ _ | apply Below.drew | apply below_drewN | (refine Below.setCell ?_ (by first | omega | (simp; done) | (simp; omega) | (dsimp only; omega)) _) | (refine Below.alloc ?_ (by first | omega | (simp; done) | (simp; omega) | (dsimp only; omega)) _)))))).mono ?_
    rintro e w1 ⟨rfl, hb1⟩
    have HB1 : Hid (Below w.heap.size w w1) := below_then (by (repeat (first | exact Below.refl _ _ | apply Below.drew | apply below_drewN | (refine Below.setCell ?_ (by first | omega | (simp; done) | (simp; omega) | (dsimp only; omega)) _) | (refine Below.alloc ?_ (by first | omega | (simp; done) | (simp; omega) | (dsimp only; omega)) _)))) hb1
    obtain ⟨hc1, hf1, hz1⟩ := bcell3 hb1
    rw [g]
    go_wp2_with fail
    refine (l8Acts_c _ m xn ln _ (hm.later HB1.out) OK.out hx hl).mono ?_
    rintro e w2 ⟨u, rfl, ⟨bu, ou, cu, rfl, hi, _, _⟩, hb2⟩
    have HI := Lib.hid hi; clear hi
    go_wp2_with fail
    go_ret2
    exact ⟨_, _, rfl, HI.out, below_then HB1.out hb2⟩
theorem implActsAt_c (v : Value) (m : Wk) (x l : Int) (w : World) (R : List Int) (b : Bool) (hp : pActsAt m x l = (R, b)) (hm : WkAt w v m) (wx : wfI x) (wl : wfI l) :
    Calls Try.prog 39 #[v, .int .i64 x, .int .i64 l] w fun e w' => ∃ u, e = .returned (.tuple #[u, .bool b]) ∧ w'.ownsRow w.heap.size 3 1 u R.length (ints R) ∧ Below w.heap.size w w' := by
  have hM := hm
  obtain ⟨⟨ad, cd, ak, ck, rfl, hd, hk'⟩, nd, nk⟩ := hM
  cases g : visitB m x l
  · simp only [pActsAt, g] at hp
    cases hp
    go_enter Try.func39, Try.ntmps39
    go_wp2_with fail
    refine (isVisitOf_c _ m _ _ _ (hm.later (by (repeat (first | exact Below.refl _ _ | apply Below.drew | apply below_drewN | (refine Below.setCell ?_ (by first | omega | (simp; done) | (simp; omega) | (dsimp only; omega)) _) | (refine Below.alloc ?_ (by first | omega | (simp; done) | (simp; omega) | (dsimp only; omega)) _)))))).mono ?_
    rintro e w1 ⟨rfl, hb1⟩
    have HB1 : Hid (Below w.heap.size w w1) := below_then (by (repeat (first | exact Below.refl _ _ | apply Below.drew | apply below_drewN | (refine Below.setCell ?_ (by first | omega | (simp; done) | (simp; omega) | (dsimp only; omega)) _) | (refine Below.alloc ?_ (by first | omega | (simp; done) | (simp; omega) | (dsimp only; omega)) _)))) hb1
    rw [g]
    go_wp2_with fail
    go_ret2
    exact ⟨_, rfl, ⟨rfl, .inl ⟨rfl, rfl⟩⟩, HB1.out⟩
  · obtain ⟨ok, xn, ln, rfl, rfl, hx, hl⟩ := visit_parts g
    simp only [pActsAt, g, if_true] at hp
    cases hp
    have OK := Lib.hid ok; clear ok
    go_enter Try.func39, Try.ntmps39
    go_wp2_with fail
    refine (isVisitOf_c _ m _ _ _ (hm.later (by (repeat (first | exact Below.refl _ _ | apply Below.drew | apply below_drewN | (refine Below.setCell ?_ (by first | omega | (simp; done) | (simp; omega) | (dsimp only; omega)) _) | (refine Below.alloc ?_ (by first | omega | (simp; done) | (simp; omega) | (dsimp only; omega)) _)))))).mono ?_
    rintro e w1 ⟨rfl, hb1⟩
    have HB1 : Hid (Below w.heap.size w w1) := below_then (by (repeat (first | exact Below.refl _ _ | apply Below.drew | apply below_drewN | (refine Below.setCell ?_ (by first | omega | (simp; done) | (simp; omega) | (dsimp only; omega)) _) | (refine Below.alloc ?_ (by first | omega | (simp; done) | (simp; omega) | (dsimp only; omega)) _)))) hb1
    obtain ⟨hc1, hf1, hz1⟩ := bcell3 hb1
    rw [g]
    go_wp2_with fail
    refine (acts_c _ m xn ln _ (hm.later HB1.out) OK.out hx hl).mono ?_
    rintro e w2 ⟨u, rfl, ho, hb2⟩
    have HI := Lib.hid ho; clear ho
    go_wp2_with fail
    go_ret2
    exact ⟨_, rfl, (Own.mono (Own.of HI.out) HB1.out.size (Nat.le_refl _)).row, below_then HB1.out hb2⟩
end Go.Proofs.Ytmilpahggceemaa
