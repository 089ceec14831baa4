/- Contract of l1Put. -/
import Derived.Test.YtmilpahggceemaaKdPut
set_option linter.unusedVariables false
set_option linter.unusedSimpArgs false
namespace Go.Proofs.Ytmilpahggceemaa
open Go.RowKit Go.KD
attribute [local go_sem] later_cell later_frozen
set_option maxHeartbeats 8000000 in
theorem l1PutB_c (b0 off0 cap : Nat) (l : List Int) (x : Int) (w : World) (hA : IC w (some ⟨b0, off0, none⟩) l) (hl : l.length ≤ 1000) (hcap : l.length ≤ cap) (hc63 : cap ≤ maxLen) :
    Calls Try.prog 279 #[.slice (some ⟨b0, off0, none⟩) l.length cap, .int .i64 x] w fun e w' => ∃ b' off' c', e = .returned (.slice (some ⟨b', off', none⟩) (putL l x).length c') ∧ IC w' (some ⟨b', off', none⟩) (putL l x) ∧ (putL l x).length ≤ c' ∧ c' ≤ maxLen ∧ Below w.heap.size w w' ∧ (b' = b0 ∨ w.heap.size ≤ b') := by
  obtain ⟨i0, ji, jz0, jz1, jz2⟩ := info_parts infoI
  have hc2 : cap ≤ 9223372036854775807 := by unfold maxLen at hc63; omega
  go_enter Try.func279, Try.ntmps279
  go_wp2
  go_loop [5] (fun c => ∃ k : Nat, k ≤ l.length ∧ c = .int .i64 k ∧ Hid (∀ j, j < k → l[j]! < x)) (fun c => l.length - (intOf c).toNat)
  case atStart => exact ⟨0, Nat.zero_le _, rfl, fun j hj => absurd hj (Nat.not_lt_zero j)⟩
  case round =>
    obtain ⟨k, hk, rfl, HJ⟩ := hrel
    by_cases hlt : k < l.length
    · have hkn : (k : Int) < (l.length : Int) := by omega
      obtain ⟨b, off, y, hbo, HY, hbs, e0⟩ := hA.at k hlt
      cases hbo
      cases p1 : decide (y < x)
      · have HL : Hid (¬ l[k]! < x) := by show ¬ _; rw [HY.out]; simpa using p1
        cases p2 : (y == x)
        · have HE : Hid (putL l x = l.take k ++ x :: l.drop k) := by
            show _ = _
            rw [putL_eq l x k hk HJ.out (fun _ => HL.out), if_neg]
            rintro ⟨-, h⟩
            rw [HY.out] at h; simp [h] at p2
          have hkc : (k : Int) ≤ (cap : Int) := by omega
          have hkl : (k : Int) ≤ (l.length : Int) := by omega
          have hlc : (l.length : Int) ≤ (cap : Int) := by omega
          have hk0 : (0 : Int) ≤ (k : Int) := by omega
          have hck : ¬ (cap = k) := by omega
          go_wp2
          go_region_law (first
            | (refine step_append_below _ w w.heap.size (by (repeat (first | exact Below.refl _ _ | apply Below.drew | apply below_drewN | (refine Below.setCell ?_ (by first | omega | (simp; done) | (simp; omega) | (dsimp only; omega)) _) | (refine Below.alloc ?_ (by first | omega | (simp; done) | (simp; omega) | (dsimp only; omega)) _)))) (by rfl) _ _ 24 (by rfl) 3 i0 (.int .i64 0) 1 8 Try.underlying24 ji jz0 jz1 jz2 rfl (by decide) (.slice (some ⟨_, 0, none⟩) 0 0) 0 [] (by rfl) (own_empty (by first | exact heap1 w _ | exact heap2 w _ _ | exact heap3 w _ _) (by simp)) ⟨b0, off0, none⟩ k _ (ints (l.take k)) (by rfl) (by simp [length_ints]; omega) (news_take (hA.later (by (repeat (first | exact Below.refl _ _ | apply Below.drew | apply below_drewN | (refine Below.setCell ?_ (by first | omega | (simp; done) | (simp; omega) | (dsimp only; omega)) _) | (refine Below.alloc ?_ (by first | omega | (simp; done) | (simp; omega) | (dsimp only; omega)) _))))) k) ints_one (by unfold maxLen; omega) (by omega) (by simp; try omega) ?_; intro v1 w1 ho1 hg1 hb1)
            | (refine step_append_below _ w w.heap.size (hb1.alloc hb1.size _) (by rfl) _ _ 24 (by rfl) 3 i0 (.int .i64 0) 1 8 Try.underlying24 ji jz0 jz1 jz2 rfl (by decide) _ _ _ (by rfl) (ho1.alloc _) ⟨_, 0, none⟩ 1 1 (ints [x]) (by rfl) (by rfl) (cell_one_new _ _ _) ints_one (by unfold maxLen; omega) (by omega) (by have := hb1.size; simp; omega) ?_; intro v2 w2 ho2 hg2 hb2)
            | (refine step_append_below _ w w.heap.size hb1 (by rfl) _ _ 24 (by rfl) 3 i0 (.int .i64 0) 1 8 Try.underlying24 ji jz0 jz1 jz2 rfl (by decide) _ _ _ (by rfl) ho1 ⟨_, 0, none⟩ 1 1 (ints [x]) (by rfl) (by rfl) (by intro j u hu; rcases j with _ | j; (rw [add_at rfl, hg1.cell_far ⟨_, _, none⟩ (by simp; try omega) (by simp [Value.ownBlock]; try omega)]; simp [ints] at hu; subst hu; simp [go_sem]); (simp [ints] at hu)) ints_one (by unfold maxLen; omega) (by omega) hb1.size ?_; intro v2 w2 ho2 hg2 hb2)
            | (refine step_append_below _ w w.heap.size hb2 (by rfl) _ _ 24 (by rfl) 3 i0 (.int .i64 0) 1 8 Try.underlying24 ji jz0 jz1 jz2 rfl (by decide) _ _ _ (by rfl) ho2 ⟨b0, off0 + k, none⟩ (l.length - k) _ (ints (l.drop k)) (by rfl) (by simp [length_ints]) (news_drop (hA.later hb2) k) ints_one (by unfold maxLen; omega) (by omega) hb2.size ?_; intro v3 w3 ho3 hg3 hb3))
          all_goals
            obtain ⟨g3, c3, rfl, hi3, hr3, hm3, hlo3⟩ := put_end hk ho3
            have HI := Lib.hid hi3; clear hi3
            clear ho3 ho2 ho1 hg1 hg2 hg3
            go_wp2
            go_ret
            exact ⟨g3, 0, c3, by rw [HE.out]; rfl, by rw [HE.out]; exact HI.out, by rw [HE.out]; exact hr3, hm3, hb3, .inr hlo3⟩
        · have HE : Hid (putL l x = l) := by
            show _ = _
            rw [putL_eq l x k hk HJ.out (fun _ => HL.out), if_pos]
            exact ⟨hlt, by rw [HY.out]; simpa using p2⟩
          go_wp2
          go_ret
          exact ⟨b0, off0, cap, by rw [HE.out]; rfl, by rw [HE.out]; exact hA, by rw [HE.out]; exact hcap, hc63, Below.refl _ _, .inl rfl⟩
      · have HJ' : Hid (∀ j, j < k + 1 → l[j]! < x) := by
          intro j hj
          rcases Nat.lt_or_ge j k with h | h
          · exact HJ.out j h
          · obtain rfl : j = k := by omega
            rw [HY.out]; simpa using p1
        go_wp2
        go_round
        case rel => exact ⟨k + 1, by omega, by go_num, HJ'⟩
        case measure => simp [intOf]; omega
    · have hge : decide ((k : Int) < (l.length : Int)) = false := by simp; omega
      have HE : Hid (putL l x = l.take k ++ x :: l.drop k) := by
        show _ = _
        rw [putL_eq l x k hk HJ.out (fun h => absurd h hlt), if_neg (fun h => hlt h.1)]
      by_cases hck : cap = k
      · have hkc : (k : Int) ≤ (cap : Int) := by omega
        have hkl : (k : Int) ≤ (l.length : Int) := by omega
        have hlc : (l.length : Int) ≤ (cap : Int) := by omega
        have hk0 : (0 : Int) ≤ (k : Int) := by omega
        go_wp2
        go_region_law (first
          | (refine step_append_below _ w w.heap.size (by (repeat (first | exact Below.refl _ _ | apply Below.drew | apply below_drewN | (refine Below.setCell ?_ (by first | omega | (simp; done) | (simp; omega) | (dsimp only; omega)) _) | (refine Below.alloc ?_ (by first | omega | (simp; done) | (simp; omega) | (dsimp only; omega)) _)))) (by rfl) _ _ 24 (by rfl) 3 i0 (.int .i64 0) 1 8 Try.underlying24 ji jz0 jz1 jz2 rfl (by decide) (.slice (some ⟨_, 0, none⟩) 0 0) 0 [] (by rfl) (own_empty (by first | exact heap1 w _ | exact heap2 w _ _ | exact heap3 w _ _) (by simp)) ⟨b0, off0, none⟩ k _ (ints (l.take k)) (by rfl) (by simp [length_ints]; omega) (news_take (hA.later (by (repeat (first | exact Below.refl _ _ | apply Below.drew | apply below_drewN | (refine Below.setCell ?_ (by first | omega | (simp; done) | (simp; omega) | (dsimp only; omega)) _) | (refine Below.alloc ?_ (by first | omega | (simp; done) | (simp; omega) | (dsimp only; omega)) _))))) k) ints_one (by unfold maxLen; omega) (by omega) (by simp; try omega) ?_; intro v1 w1 ho1 hg1 hb1)
          | (refine step_append_below _ w w.heap.size (hb1.alloc hb1.size _) (by rfl) _ _ 24 (by rfl) 3 i0 (.int .i64 0) 1 8 Try.underlying24 ji jz0 jz1 jz2 rfl (by decide) _ _ _ (by rfl) (ho1.alloc _) ⟨_, 0, none⟩ 1 1 (ints [x]) (by rfl) (by rfl) (cell_one_new _ _ _) ints_one (by unfold maxLen; omega) (by omega) (by have := hb1.size; simp; omega) ?_; intro v2 w2 ho2 hg2 hb2)
          | (refine step_append_below _ w w.heap.size hb1 (by rfl) _ _ 24 (by rfl) 3 i0 (.int .i64 0) 1 8 Try.underlying24 ji jz0 jz1 jz2 rfl (by decide) _ _ _ (by rfl) ho1 ⟨_, 0, none⟩ 1 1 (ints [x]) (by rfl) (by rfl) (by intro j u hu; rcases j with _ | j; (rw [add_at rfl, hg1.cell_far ⟨_, _, none⟩ (by simp; try omega) (by simp [Value.ownBlock]; try omega)]; simp [ints] at hu; subst hu; simp [go_sem]); (simp [ints] at hu)) ints_one (by unfold maxLen; omega) (by omega) hb1.size ?_; intro v2 w2 ho2 hg2 hb2)
          | (refine step_append_below _ w w.heap.size hb2 (by rfl) _ _ 24 (by rfl) 3 i0 (.int .i64 0) 1 8 Try.underlying24 ji jz0 jz1 jz2 rfl (by decide) _ _ _ (by rfl) ho2 ⟨b0, off0, none⟩ (l.length - k) _ (ints (l.drop k)) (by rfl) (by simp [length_ints]) (by rw [List.drop_of_length_le (by omega)]; intro j u hu; simp [ints] at hu) ints_one (by unfold maxLen; omega) (by omega) hb2.size ?_; intro v3 w3 ho3 hg3 hb3))
        all_goals
          obtain ⟨g3, c3, rfl, hi3, hr3, hm3, hlo3⟩ := put_end hk ho3
          have HI := Lib.hid hi3; clear hi3
          clear ho3 ho2 ho1 hg1 hg2 hg3
          go_wp2
          go_ret
          exact ⟨g3, 0, c3, by rw [HE.out]; rfl, by rw [HE.out]; exact HI.out, by rw [HE.out]; exact hr3, hm3, hb3, .inr hlo3⟩
      · have hkc : (k : Int) ≤ (cap : Int) := by omega
        have hkl : (k : Int) ≤ (l.length : Int) := by omega
        have hlc : (l.length : Int) ≤ (cap : Int) := by omega
        have hk0 : (0 : Int) ≤ (k : Int) := by omega
        go_wp2
        go_region_law (first
          | (refine step_append_below _ w w.heap.size (by (repeat (first | exact Below.refl _ _ | apply Below.drew | apply below_drewN | (refine Below.setCell ?_ (by first | omega | (simp; done) | (simp; omega) | (dsimp only; omega)) _) | (refine Below.alloc ?_ (by first | omega | (simp; done) | (simp; omega) | (dsimp only; omega)) _)))) (by rfl) _ _ 24 (by rfl) 3 i0 (.int .i64 0) 1 8 Try.underlying24 ji jz0 jz1 jz2 rfl (by decide) (.slice (some ⟨_, 0, none⟩) 0 0) 0 [] (by rfl) (own_empty (by first | exact heap1 w _ | exact heap2 w _ _ | exact heap3 w _ _) (by simp)) ⟨b0, off0, none⟩ k _ (ints (l.take k)) (by rfl) (by simp [length_ints]; omega) (news_take (hA.later (by (repeat (first | exact Below.refl _ _ | apply Below.drew | apply below_drewN | (refine Below.setCell ?_ (by first | omega | (simp; done) | (simp; omega) | (dsimp only; omega)) _) | (refine Below.alloc ?_ (by first | omega | (simp; done) | (simp; omega) | (dsimp only; omega)) _))))) k) ints_one (by unfold maxLen; omega) (by omega) (by simp; try omega) ?_; intro v1 w1 ho1 hg1 hb1)
          | (refine step_append_below _ w w.heap.size (hb1.alloc hb1.size _) (by rfl) _ _ 24 (by rfl) 3 i0 (.int .i64 0) 1 8 Try.underlying24 ji jz0 jz1 jz2 rfl (by decide) _ _ _ (by rfl) (ho1.alloc _) ⟨_, 0, none⟩ 1 1 (ints [x]) (by rfl) (by rfl) (cell_one_new _ _ _) ints_one (by unfold maxLen; omega) (by omega) (by have := hb1.size; simp; omega) ?_; intro v2 w2 ho2 hg2 hb2)
          | (refine step_append_below _ w w.heap.size hb1 (by rfl) _ _ 24 (by rfl) 3 i0 (.int .i64 0) 1 8 Try.underlying24 ji jz0 jz1 jz2 rfl (by decide) _ _ _ (by rfl) ho1 ⟨_, 0, none⟩ 1 1 (ints [x]) (by rfl) (by rfl) (by intro j u hu; rcases j with _ | j; (rw [add_at rfl, hg1.cell_far ⟨_, _, none⟩ (by simp; try omega) (by simp [Value.ownBlock]; try omega)]; simp [ints] at hu; subst hu; simp [go_sem]); (simp [ints] at hu)) ints_one (by unfold maxLen; omega) (by omega) hb1.size ?_; intro v2 w2 ho2 hg2 hb2)
          | (refine step_append_below _ w w.heap.size hb2 (by rfl) _ _ 24 (by rfl) 3 i0 (.int .i64 0) 1 8 Try.underlying24 ji jz0 jz1 jz2 rfl (by decide) _ _ _ (by rfl) ho2 ⟨b0, off0 + k, none⟩ (l.length - k) _ (ints (l.drop k)) (by rfl) (by simp [length_ints]) (news_drop (hA.later hb2) k) ints_one (by unfold maxLen; omega) (by omega) hb2.size ?_; intro v3 w3 ho3 hg3 hb3))
        all_goals
          obtain ⟨g3, c3, rfl, hi3, hr3, hm3, hlo3⟩ := put_end hk ho3
          have HI := Lib.hid hi3; clear hi3
          clear ho3 ho2 ho1 hg1 hg2 hg3
          go_wp2
          go_ret
          exact ⟨g3, 0, c3, by rw [HE.out]; rfl, by rw [HE.out]; exact HI.out, by rw [HE.out]; exact hr3, hm3, hb3, .inr hlo3⟩
theorem l1Put_c (b0 off0 cap : Nat) (l : List Int) (x : Int) (w : World) (hA : IC w (some ⟨b0, off0, none⟩) l) (hl : l.length ≤ 1000) (hcap : l.length ≤ cap) (hc63 : cap ≤ maxLen) :
    Calls Try.prog 279 #[.slice (some ⟨b0, off0, none⟩) l.length cap, .int .i64 x] w fun e w' => ∃ b' off' c', e = .returned (.slice (some ⟨b', off', none⟩) (putL l x).length c') ∧ IC w' (some ⟨b', off', none⟩) (putL l x) ∧ (putL l x).length ≤ c' ∧ c' ≤ maxLen ∧ Below w.heap.size w w' :=
  (l1PutB_c b0 off0 cap l x w hA hl hcap hc63).mono fun _ _ ⟨b', off', c', h1, h2, h3, h4, h5, _⟩ => ⟨b', off', c', h1, h2, h3, h4, h5⟩
end Go.Proofs.Ytmilpahggceemaa
