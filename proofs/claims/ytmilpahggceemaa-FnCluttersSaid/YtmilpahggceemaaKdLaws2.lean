/- Contracts of the laws' own helpers over mazes and works: sizes, copies, equality, marks. -/
import Derived.Test.YtmilpahggceemaaKdLaws
set_option linter.unusedVariables false
set_option linter.unusedSimpArgs false
namespace Go.Proofs.Ytmilpahggceemaa
open Go.RowKit Go.KD
attribute [local go_sem] later_cell later_frozen
set_option maxHeartbeats 1000000 in
theorem toWorks_c (v : Value) (m : Wk) (w : World) (hm : WkAt w v m) : Calls Try.prog 42 #[v] w fun e w' =>
    ∃ u, e = .returned u ∧ WkOwn w.heap.size w'.heap.size w' u m ∧ Below w.heap.size w w' := by
  obtain ⟨⟨ad, cd, ak, ck, rfl, hd, hk⟩, nd, nk⟩ := hm
  obtain ⟨s, d, k⟩ := m
  dsimp only at *
  go_enter Try.func42, Try.ntmps42
  go_wp2_with fail
  refine (toIntA4S_c _ _ _ _ (hd.later (by (repeat (first | exact Below.refl _ _ | apply Below.drew | apply below_drewN | (refine Below.setCell ?_ (by first | omega | (simp; done) | (simp; omega) | (dsimp only; omega)) _) | (refine Below.alloc ?_ (by first | omega | (simp; done) | (simp; omega) | (dsimp only; omega)) _))))) nd).mono ?_
  rintro e w1 ⟨v1, rfl, ho1, hb1⟩
  obtain ⟨a1, c1, rfl⟩ := own_slice ho1
  have HO1 := Lib.hid ho1; clear ho1
  obtain ⟨hc1, hf1, hz1⟩ := bcell3 hb1
  simp only [World.size_alloc] at hz1
  have hz5 : w.heap.size + 1 + 1 < w1.heap.size := by omega
  have hz6 : w.heap.size + 1 < w1.heap.size := by omega
  have hz7 : w.heap.size < w1.heap.size := by omega
  have HB1 : Hid (Below w.heap.size w w1) := below_then (by (repeat (first | exact Below.refl _ _ | apply Below.drew | apply below_drewN | (refine Below.setCell ?_ (by first | omega | (simp; done) | (simp; omega) | (dsimp only; omega)) _) | (refine Below.alloc ?_ (by first | omega | (simp; done) | (simp; omega) | (dsimp only; omega)) _)))) hb1
  go_wp2_with fail
  refine (toIntS_c _ _ _ _ (hk.later (HB1.out.setCell (by simp; omega) _)) nk).mono ?_
  rintro e w2 ⟨v2, rfl, ho2, hb2⟩
  obtain ⟨a2, c2, rfl⟩ := own_slice ho2
  have HO2 := Lib.hid ho2; clear ho2
  obtain ⟨hc2, hf2, hz2⟩ := bcell3 hb2
  simp only [World.size_setCell] at hz2
  have hz3 : w.heap.size + 1 + 1 < w2.heap.size := by omega
  have hz4 : w.heap.size + 1 < w2.heap.size := by omega
  go_wp2_with fail
  refine bodyPost_ret (v := .agg #[.int .i64 s, .slice a1 d.length c1, .slice a2 k.length c2]) (by simp [results, Try.results42, go_sem, hc1, hc2, hz3, hz4, hz5, hz6]) rfl ?_
  have O1 := ((Own.of HO1.out).setCell (a := ⟨w.heap.size + 1 + 1, 1, none⟩) (.inl (by first | omega | (simp; done) | (simp; omega) | (dsimp only; omega))) (.slice a1 d.length c1)).later hb2 (by first | omega | (simp; done) | (simp; omega) | (dsimp only; omega))
  have O2 := Own.of HO2.out
  simp only [World.size_alloc, World.size_setCell] at O1 O2
  have hap := O1.apart O2 (.inl (by first | omega | (simp; done) | (simp; omega) | (dsimp only; omega)))
  have hB2 : Below w.heap.size w w2 := (HB1.out.setCell (p := ⟨w.heap.size + 1 + 1, 1, none⟩) (by first | omega | (simp; done) | (simp; omega) | (dsimp only; omega)) (.slice a1 d.length c1)).trans (hb2.mono (by first | omega | (simp; done) | (simp; omega) | (dsimp only; omega)))
  clear hc1 hc2 hf1 hf2
  refine ⟨_, rfl, ⟨54, 3, _, _, rfl, ?_, ?_, hap⟩, ?_⟩
  · refine Own.mono (lo := w.heap.size + 1 + 1 + 1) (hi := w1.heap.size) ?_ (by first | omega | (simp; done) | (simp; omega) | (dsimp only; omega)) (by first | omega | (simp; done) | (simp; omega) | (dsimp only; omega))
    repeat (first | exact O1 | refine Own.setCell ?_ (.inl (by first | omega | (simp; done) | (simp; omega) | (dsimp only; omega))) _)
  · refine Own.mono (lo := w1.heap.size) (hi := w2.heap.size) ?_ (by first | omega | (simp; done) | (simp; omega) | (dsimp only; omega)) (by first | omega | (simp; done) | (simp; omega) | (dsimp only; omega))
    repeat (first | exact O2 | refine Own.setCell ?_ (.inl (by first | omega | (simp; done) | (simp; omega) | (dsimp only; omega))) _)
  · repeat (first | exact hB2 | refine Below.setCell ?_ (by first | omega | (simp; done) | (simp; omega) | (dsimp only; omega)) _)
theorem eqWorks_c (u v : Value) (m n : Wk) (w : World) (hm : WkAt w u m) (hn : WkAt w v n) : Calls Try.prog 44 #[u, v] w fun e w' =>
    e = .returned (.bool (decide (m = n))) ∧ Below w.heap.size w w' := by
  obtain ⟨⟨ad, cd, ak, ck, rfl, hd, hk⟩, nd, nk⟩ := hm
  obtain ⟨⟨ad', cd', ak', ck', rfl, hd', hk'⟩, nd', nk'⟩ := hn
  obtain ⟨s, d, k⟩ := m
  obtain ⟨s', d', k'⟩ := n
  dsimp only at *
  by_cases h1 : s = s'
  · subst h1
    by_cases h2 : d = d'
    · have g2 : decide (d = d') = true := decide_eq_true h2
      have H2 := Lib.hid h2; clear h2
      by_cases h3 : k = k'
      · have g3 : decide (k = k') = true := decide_eq_true h3
        have H3 := Lib.hid h3; clear h3
        go_enter Try.func44, Try.ntmps44
        go_wp2_with (first | (go_at_call 173; refine (eqIntA4S_c _ _ _ _ _ _ _ (hd.later (by (repeat (first | exact Below.refl _ _ | apply Below.drew | apply below_drewN | (refine Below.setCell ?_ (by first | omega | (simp; done) | (simp; omega) | (dsimp only; omega)) _) | (refine Below.alloc ?_ (by first | omega | (simp; done) | (simp; omega) | (dsimp only; omega)) _))))) (hd'.later (by (repeat (first | exact Below.refl _ _ | apply Below.drew | apply below_drewN | (refine Below.setCell ?_ (by first | omega | (simp; done) | (simp; omega) | (dsimp only; omega)) _) | (refine Below.alloc ?_ (by first | omega | (simp; done) | (simp; omega) | (dsimp only; omega)) _))))) nd nd').mono ?_; rintro e w1 ⟨rfl, hb1⟩; obtain ⟨hc1, hf1, hz1⟩ := bcell3 hb1; have HB1 : Below w.heap.size w w1 := below_then (by (repeat (first | exact Below.refl _ _ | apply Below.drew | apply below_drewN | (refine Below.setCell ?_ (by first | omega | (simp; done) | (simp; omega) | (dsimp only; omega)) _) | (refine Below.alloc ?_ (by first | omega | (simp; done) | (simp; omega) | (dsimp only; omega)) _)))) hb1) | (go_at_call 174; refine (eqIntS_c _ _ _ _ _ _ _ (hk.later HB1) (hk'.later HB1) nk nk').mono ?_; rintro e w2 ⟨rfl, hb2⟩))
        go_ret
        exact ⟨ret_bool (by symm; rw [decide_eq_true_iff]; rw [H2.out, H3.out]), below_then HB1 hb2⟩
      · have g3 : decide (k = k') = false := decide_eq_false h3
        go_enter Try.func44, Try.ntmps44
        go_wp2_with (first | (go_at_call 173; refine (eqIntA4S_c _ _ _ _ _ _ _ (hd.later (by (repeat (first | exact Below.refl _ _ | apply Below.drew | apply below_drewN | (refine Below.setCell ?_ (by first | omega | (simp; done) | (simp; omega) | (dsimp only; omega)) _) | (refine Below.alloc ?_ (by first | omega | (simp; done) | (simp; omega) | (dsimp only; omega)) _))))) (hd'.later (by (repeat (first | exact Below.refl _ _ | apply Below.drew | apply below_drewN | (refine Below.setCell ?_ (by first | omega | (simp; done) | (simp; omega) | (dsimp only; omega)) _) | (refine Below.alloc ?_ (by first | omega | (simp; done) | (simp; omega) | (dsimp only; omega)) _))))) nd nd').mono ?_; rintro e w1 ⟨rfl, hb1⟩; obtain ⟨hc1, hf1, hz1⟩ := bcell3 hb1; have HB1 : Below w.heap.size w w1 := below_then (by (repeat (first | exact Below.refl _ _ | apply Below.drew | apply below_drewN | (refine Below.setCell ?_ (by first | omega | (simp; done) | (simp; omega) | (dsimp only; omega)) _) | (refine Below.alloc ?_ (by first | omega | (simp; done) | (simp; omega) | (dsimp only; omega)) _)))) hb1) | (go_at_call 174; refine (eqIntS_c _ _ _ _ _ _ _ (hk.later HB1) (hk'.later HB1) nk nk').mono ?_; rintro e w2 ⟨rfl, hb2⟩))
        go_ret
        exact ⟨ret_bool (by symm; rw [decide_eq_false_iff_not]; simp [h3]), below_then HB1 hb2⟩
    · have g2 : decide (d = d') = false := decide_eq_false h2
      go_enter Try.func44, Try.ntmps44
      go_wp2_with (go_at_call 173; refine (eqIntA4S_c _ _ _ _ _ _ _ (hd.later (by (repeat (first | exact Below.refl _ _ | apply Below.drew | apply below_drewN | (refine Below.setCell ?_ (by first | omega | (simp; done) | (simp; omega) | (dsimp only; omega)) _) | (refine Below.alloc ?_ (by first | omega | (simp; done) | (simp; omega) | (dsimp only; omega)) _))))) (hd'.later (by (repeat (first | exact Below.refl _ _ | apply Below.drew | apply below_drewN | (refine Below.setCell ?_ (by first | omega | (simp; done) | (simp; omega) | (dsimp only; omega)) _) | (refine Below.alloc ?_ (by first | omega | (simp; done) | (simp; omega) | (dsimp only; omega)) _))))) nd nd').mono ?_; rintro e w1 ⟨rfl, hb1⟩; obtain ⟨hc1, hf1, hz1⟩ := bcell3 hb1; have HB1 : Below w.heap.size w w1 := below_then (by (repeat (first | exact Below.refl _ _ | apply Below.drew | apply below_drewN | (refine Below.setCell ?_ (by first | omega | (simp; done) | (simp; omega) | (dsimp only; omega)) _) | (refine Below.alloc ?_ (by first | omega | (simp; done) | (simp; omega) | (dsimp only; omega)) _)))) hb1)
      go_ret
      exact ⟨ret_bool (by symm; rw [decide_eq_false_iff_not]; simp [h2]), HB1⟩
  · have g1 : (s != s') = true := by simpa using h1
    go_enter Try.func44, Try.ntmps44
    go_wp2
    go_ret
    exact ⟨ret_bool (by symm; rw [decide_eq_false_iff_not]; simp [h1]), by (repeat (first | exact Below.refl _ _ | apply Below.drew | apply below_drewN | (refine Below.setCell ?_ (by first | omega | (simp; done) | (simp; omega) | (dsimp only; omega)) _) | (refine Below.alloc ?_ (by first | omega | (simp; done) | (simp; omega) | (dsimp only; omega)) _)))⟩
theorem szWorks_c (ad ak : Option Addr) (cd ck d k : Nat) (s left : Int) (w : World) (h0 : 0 ≤ left) (h1 : left ≤ 1048576) (hd : d ≤ maxLen) (hk : k ≤ maxLen) : Calls Try.prog 40 #[.agg #[.int .i64 s, .slice ad d cd, .slice ak k ck], .int .i64 left] w fun e w' =>
    e = .returned (.int .i64 (szMzP left d k)) ∧ Below w.heap.size w w' := by
  by_cases h : szP left d < 0
  · have hneg : szP left d = -1 := by unfold szP at *; split at h <;> omega
    have HH := Lib.hid hneg
    have hd1 : decide (szP left d < 0) = true := decide_eq_true h
    clear hneg h
    go_enter Try.func40, Try.ntmps40
    go_wp2_with (go_at_call 164; refine (szIntA4S_c _ _ _ _ _ h0 h1 hd).mono ?_; rintro e w1 ⟨rfl, rfl⟩)
    go_ret
    exact ⟨ret_int (by unfold szMzP; rw [if_pos (by rw [HH.out]; omega)]), by (repeat (first | exact Below.refl _ _ | apply Below.drew | apply below_drewN | (refine Below.setCell ?_ (by first | omega | (simp; done) | (simp; omega) | (dsimp only; omega)) _) | (refine Below.alloc ?_ (by first | omega | (simp; done) | (simp; omega) | (dsimp only; omega)) _)))⟩
  · have hd1 : decide (szP left d < 0) = false := decide_eq_false h
    have hle : szP left d ≤ left := by unfold szP at *; split at h <;> omega
    have h0' : 0 ≤ szP left d := by omega
    by_cases h2 : szP (szP left d) k < 0
    · have hneg : szP (szP left d) k = -1 := by rw [szP] at h2 ⊢; split at h2 <;> split <;> omega
      have HH := Lib.hid hneg
      have hd2 : decide (szP (szP left d) k < 0) = true := decide_eq_true h2
      have H := Lib.hid h
      clear hneg h h2
      go_enter Try.func40, Try.ntmps40
      go_wp2_with (first | (go_at_call 164; refine (szIntA4S_c _ _ _ _ _ h0 h1 hd).mono ?_; rintro e w1 ⟨rfl, rfl⟩) | (go_at_call 165; refine (szIntS_c _ _ _ _ _ h0' (by omega) hk).mono ?_; rintro e w1 ⟨rfl, rfl⟩))
      go_ret
      exact ⟨ret_int (by unfold szMzP; rw [if_neg (by have := H.out; omega), HH.out]), by (repeat (first | exact Below.refl _ _ | apply Below.drew | apply below_drewN | (refine Below.setCell ?_ (by first | omega | (simp; done) | (simp; omega) | (dsimp only; omega)) _) | (refine Below.alloc ?_ (by first | omega | (simp; done) | (simp; omega) | (dsimp only; omega)) _)))⟩
    · have hd2 : decide (szP (szP left d) k < 0) = false := decide_eq_false h2
      have H := Lib.hid h
      clear h
      go_enter Try.func40, Try.ntmps40
      go_wp2_with (first | (go_at_call 164; refine (szIntA4S_c _ _ _ _ _ h0 h1 hd).mono ?_; rintro e w1 ⟨rfl, rfl⟩) | (go_at_call 165; refine (szIntS_c _ _ _ _ _ h0' (by omega) hk).mono ?_; rintro e w1 ⟨rfl, rfl⟩))
      go_ret
      exact ⟨ret_int (by unfold szMzP; rw [if_neg (by have := H.out; omega)]), by (repeat (first | exact Below.refl _ _ | apply Below.drew | apply below_drewN | (refine Below.setCell ?_ (by first | omega | (simp; done) | (simp; omega) | (dsimp only; omega)) _) | (refine Below.alloc ?_ (by first | omega | (simp; done) | (simp; omega) | (dsimp only; omega)) _)))⟩
