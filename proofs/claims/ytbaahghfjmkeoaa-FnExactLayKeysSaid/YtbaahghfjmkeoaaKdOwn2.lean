/- Contract of the reference's l2Own. -/
import Derived.Test.YtbaahghfjmkeoaaKdSetW
import Derived.Test.YtbaahghfjmkeoaaKdSwap
import Derived.Test.YtbaahghfjmkeoaaKdPut2
set_option linter.unusedVariables false
set_option linter.unusedSimpArgs false
namespace Go
open Go.RowKit Go.KD
theorem own_empty3 {W : World} {N base size : Nat} {e : TypeId} (h : W.heap[N]? = some (.cells #[] e)) (hb : base ≤ N) : W.ownsRow base e size (.slice (some ⟨N, 0, none⟩) 0 0) 0 [] :=
  ⟨by simp, .inr ⟨N, 0, #[], rfl, hb, h, Nat.le_refl _, Nat.zero_le _, by simp, by simp⟩⟩
end Go
namespace Go.Proofs.Ytbaahghfjmkeoaa
open Go.RowKit Go.KD
attribute [local go_sem] later_cell later_frozen
set_option maxRecDepth 100000 in
set_option maxHeartbeats 4000000 in
theorem l2Own_c (v : Value) (m : Mz) (w : World) (hm : MzAt w v m) : Calls Try.prog 108 #[v] w fun e w' =>
    ∃ u, e = .returned u ∧ MzOwn w.heap.size w'.heap.size w' u m ∧ Below w.heap.size w w' := by
  have hM := hm
  obtain ⟨⟨ad, cd, ak, ck, rfl, hd, hk'⟩, nd, nk⟩ := hM
  obtain ⟨i0, ji, jz0, jz1, jz2⟩ := info_parts infoA3
  have HLC := Lib.hid (length_c3 m.doors)
  go_enter Try.func108, Try.ntmps108
  go_wp2
  obtain ⟨wo, hW⟩ : ∃ wo, wo = (w.alloc (.cells #[.int .i64 m.size, .slice ad m.doors.length cd, .slice ak m.keys.length ck] 29)).alloc (.cells #[.int .i64 0, .slice none 0 0, .slice none 0 0] 29) := ⟨_, rfl⟩
  have H6 : Six wo w.heap.size (.int .i64 m.size) (.slice ad m.doors.length cd) (.slice ak m.keys.length ck) (.int .i64 0) (.slice none 0 0) (.slice none 0 0) := by
    rw [hW]; exact ⟨by simp [go_sem], by simp [go_sem], by simp [go_sem], by simp [go_sem], by simp [go_sem], by simp [go_sem], by simp [go_sem], by simp [go_sem], by simp [go_sem], by simp⟩
  have HB : Hid (Below w.heap.size w wo) := by rw [hW]; exact ((Below.refl _ _).alloc (Nat.le_refl _) _).alloc (by simp) _
  rw [← hW]
  clear hW
  obtain ⟨q0, q1, q2, q3, q4, q5, q6, q7, q8, q9⟩ := H6
  have H6 := Lib.hid (Six.mk q0 q1 q2 q3 q4 q5 q6 q7 q8 q9)
  have hz := HB.out.size
  have q9' : w.heap.size < wo.heap.size := by omega
  cases ad with
  | none =>
    have h0 : m.doors = [] := by
      cases hg : m.doors with
      | nil => rfl
      | cons x l => rw [hg] at hd; obtain ⟨b, off, h, _⟩ := hd 0 (by simp); cases h
    have HW1 : Hid (Below wo.heap.size wo (wo.alloc (.cells #[] 55)).drew) := ((Below.refl _ _).alloc (by simp) _).drew
    have HO1 := Lib.hid (Own.of (own_empty3 (size := 3) (heap1 wo (.cells #[] 55)) (Nat.le_refl _)))
    obtain ⟨s, gs, ps⟩ := m
    dsimp only at *
    subst h0
    have t0 : (wo.alloc (.cells #[] 55)).drew.cell? ⟨w.heap.size, 0, none⟩ = some (.int .i64 s) := (HW1.out.cell (p := ⟨w.heap.size, 0, none⟩) q9').trans q0
    have t1 : (wo.alloc (.cells #[] 55)).drew.cell? ⟨w.heap.size, 1, none⟩ = some (.slice none 0 cd) := (HW1.out.cell (p := ⟨w.heap.size, 1, none⟩) q9').trans q1
    have t2 : (wo.alloc (.cells #[] 55)).drew.cell? ⟨w.heap.size, 2, none⟩ = some (.slice ak ps.length ck) := (HW1.out.cell (p := ⟨w.heap.size, 2, none⟩) q9').trans q2
    simp only [List.length_nil] at q1
    go_region_held3 (fun W => W.cell? ⟨w.heap.size, 0, none⟩ = some (.int .i64 s) ∧ W.cell? ⟨w.heap.size, 1, none⟩ = some (.slice none 0 cd) ∧ W.cell? ⟨w.heap.size, 2, none⟩ = some (.slice ak ps.length ck))
      (first | exact ⟨q0, q1, q2⟩ | exact ⟨s0, s1, s2⟩ | (refine ⟨?_, ?_, ?_⟩ <;> (repeat rw [World.cell?_setCell_other _ _ _ _ (by simp)]) <;> first | exact s0 | exact s1 | exact s2) | exact ⟨t0, t1, t2⟩)
      ((go_at_call 58; refine (l1Own_c _ _ _ ps _ rfl (hk'.later (below_then HB.out HW1.out)) nk).mono ?_; rintro e w3 ⟨v3, rfl, ho3, hb3⟩; obtain ⟨a3, c3, rfl⟩ := own_slice ho3; have HO3 := Lib.hid (Own.of ho3); clear ho3; obtain ⟨s0, s1, s2, s3, s4, s5, s6, s7, s8, s9⟩ := (H6.out.later HW1.out).later hb3))
    have hz3 := hb3.size
    have hzo : w.heap.size + 2 ≤ wo.heap.size := by have := H6.out.sz; omega
    have O2 := HO1.out.later hb3 (Nat.le_refl _)
    have O3 := HO3.out
    have hap := O2.apart O3 (.inl (Nat.le_refl _))
    have hB3 : Below w.heap.size w w3 := below_then (below_then HB.out HW1.out) hb3
    have hz2 := HW1.out.size
    go_wp2
    refine bodyPost_ret (v := .agg #[.int .i64 s, .slice (some ⟨wo.heap.size, 0, none⟩) 0 0, .slice a3 ps.length c3]) (by simp [results, Try.results108, go_sem, s3, s4, s5]) rfl ?_
    refine ⟨_, rfl, ⟨55, 3, _, _, rfl, ?_, ?_, hap⟩, ?_⟩
    · refine Own.mono (lo := wo.heap.size) (hi := (wo.alloc (.cells #[] 55)).drew.heap.size) ?_ (by omega) (by simpa using hz3)
      repeat (first | exact O2 | refine Own.setCell ?_ (.inl (by show w.heap.size + 1 < _; omega)) _)
    · refine Own.mono (lo := (wo.alloc (.cells #[] 55)).drew.heap.size) (hi := w3.heap.size) ?_ (by omega) (by simp)
      repeat (first | exact O3 | refine Own.setCell ?_ (.inl (by show w.heap.size + 1 < _; omega)) _)
    · repeat (first | exact hB3 | refine Below.setCell ?_ (by show w.heap.size ≤ w.heap.size + 1; omega) _)
  | some ad =>
    have HND : Hid (∀ j u, (c3 m.doors)[j]? = some u → (wo.alloc (.cells #[] 55)).drew.cell? (ad.add j) = some u) := by
      intro j u hu
      have h1 := d3_news (hd.later HB.out) j u hu
      have h2 := World.block_lt_of_cell? _ _ h1
      show (wo.alloc (.cells #[] 55)).cell? (ad.add j) = some u
      rw [World.cell?_alloc_lt _ _ _ h2]; exact h1
    have HW1 : Hid (Below wo.heap.size wo (wo.alloc (.cells #[] 55)).drew) := ((Below.refl _ _).alloc (by simp) _).drew
    have t0 : (wo.alloc (.cells #[] 55)).drew.cell? ⟨w.heap.size, 0, none⟩ = some (.int .i64 m.size) := (HW1.out.cell (p := ⟨w.heap.size, 0, none⟩) q9').trans q0
    have t1 : (wo.alloc (.cells #[] 55)).drew.cell? ⟨w.heap.size, 1, none⟩ = some (.slice (some ad) m.doors.length cd) := (HW1.out.cell (p := ⟨w.heap.size, 1, none⟩) q9').trans q1
    have t2 : (wo.alloc (.cells #[] 55)).drew.cell? ⟨w.heap.size, 2, none⟩ = some (.slice ak m.keys.length ck) := (HW1.out.cell (p := ⟨w.heap.size, 2, none⟩) q9').trans q2
    go_region_held3 (fun W => W.cell? ⟨w.heap.size, 0, none⟩ = some (.int .i64 m.size) ∧ W.cell? ⟨w.heap.size, 1, none⟩ = some (.slice (some ad) m.doors.length cd) ∧ W.cell? ⟨w.heap.size, 2, none⟩ = some (.slice ak m.keys.length ck))
      (first | exact ⟨q0, q1, q2⟩ | exact ⟨r0, r1, r2⟩ | exact ⟨s0, s1, s2⟩ | (refine ⟨?_, ?_, ?_⟩ <;> (repeat rw [World.cell?_setCell_other _ _ _ _ (by simp)]) <;> first | exact s0 | exact s1 | exact s2) | exact ⟨t0, t1, t2⟩)
      (first
        | (refine step_append_below _ wo wo.heap.size HW1.out (by rfl) _ _ 22 (by rfl) 55 i0 (.agg #[.int .i64 0, .int .i64 0, .int .i64 0]) 3 24 Try.underlying22 ji jz0 jz1 jz2 rfl (by decide) (.slice (some ⟨wo.heap.size, 0, none⟩) 0 0) 0 [] (by rfl) (own_empty3 (heap1 wo _) (Nat.le_refl _)) ad m.doors.length cd (c3 m.doors) (by rfl) (by rw [HLC.out]) HND.out c3_one (by unfold maxLen; omega) (by omega) (by simp) ?_; intro v2 w2 ho2 hg2 hb2; simp only [Nat.zero_add, List.nil_append] at ho2; obtain ⟨a2, c2, rfl⟩ := own_slice ho2; have HO2 := Lib.hid (Own.of ho2); clear ho2 hg2; obtain ⟨r0, r1, r2, r3, r4, r5, r6, r7, r8, r9⟩ := H6.out.later hb2)
        | (go_at_call 58; refine (l1Own_c _ _ _ m.keys _ rfl (hk'.later (below_then HB.out hb2)) nk).mono ?_; rintro e w3 ⟨v3, rfl, ho3, hb3⟩; obtain ⟨a3, c3, rfl⟩ := own_slice ho3; have HO3 := Lib.hid (Own.of ho3); clear ho3; obtain ⟨s0, s1, s2, s3, s4, s5, s6, s7, s8, s9⟩ := (H6.out.later hb2).later hb3))
    have hz3 := hb3.size
    have hzo : w.heap.size + 2 ≤ wo.heap.size := by have := H6.out.sz; omega
    have O2 := HO2.out.later hb3 (Nat.le_refl _)
    have O3 := HO3.out
    have hap := O2.apart O3 (.inl (Nat.le_refl _))
    have hB3 : Below w.heap.size w w3 := below_then (below_then HB.out hb2) hb3
    have hz2 := hb2.size
    go_wp2
    refine bodyPost_ret (v := .agg #[.int .i64 m.size, .slice a2 m.doors.length c2, .slice a3 m.keys.length c3]) (by simp [results, Try.results108, go_sem, s3, s4, s5]) rfl ?_
    refine ⟨_, rfl, ⟨55, 3, _, _, rfl, ?_, ?_, hap⟩, ?_⟩
    · refine Own.mono (lo := wo.heap.size) (hi := w2.heap.size) ?_ (by omega) (by simpa using hz3)
      repeat (first | (have := O2; simpa using this) | refine Own.setCell ?_ (.inl (by show w.heap.size + 1 < _; omega)) _)
    · refine Own.mono (lo := w2.heap.size) (hi := w3.heap.size) ?_ (by omega) (by simp)
      repeat (first | exact O3 | refine Own.setCell ?_ (.inl (by show w.heap.size + 1 < _; omega)) _)
    · repeat (first | exact hB3 | refine Below.setCell ?_ (by show w.heap.size ≤ w.heap.size + 1; omega) _)
end Go.Proofs.Ytbaahghfjmkeoaa
