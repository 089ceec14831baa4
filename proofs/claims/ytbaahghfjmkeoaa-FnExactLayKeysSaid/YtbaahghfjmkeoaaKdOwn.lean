/- Contracts of slices.Clone of rows of three and of impl.own. -/
import Derived.Test.YtbaahghfjmkeoaaKdReachW
import Derived.Test.YtbaahghfjmkeoaaKdChg
import Derived.RegionTactic
import Derived.ChangeAlike
set_option linter.unusedVariables false
set_option linter.unusedSimpArgs false
namespace Go.KD
open Go.RowKit
theorem get_c3' (l : List D3) (j : Nat) (hj : j < l.length * 3) : (c3 l)[j]? = some (.int .i64 (if j % 3 = 0 then (l[j / 3]!).1 else if j % 3 = 1 then (l[j / 3]!).2.1 else (l[j / 3]!).2.2)) := by
  obtain ⟨h0, h1, h2⟩ := get_c3 l (j / 3) (by omega)
  by_cases a : j % 3 = 0
  · rw [if_pos a, ← h0]; congr 1; omega
  · rw [if_neg a]
    by_cases b : j % 3 = 1
    · rw [if_pos b, ← h1]; congr 1; omega
    · rw [if_neg b, ← h2]; congr 1; omega
theorem d3_news {w : World} {ad : Addr} {l : List D3} (h : D3C w (some ad) l) : ∀ j u, (c3 l)[j]? = some u → w.cell? (ad.add j) = some u := by
  intro j u hu
  have hj : j < l.length * 3 := by
    rcases Nat.lt_or_ge j (l.length * 3) with h | h
    · exact h
    · rw [List.getElem?_eq_none (by rw [length_c3]; exact h)] at hu; cases hu
  obtain ⟨b, off, hb, hbs, c0, c1, c2⟩ := h (j / 3) (by omega)
  cases hb
  rw [add_at rfl, ← hu, get_c3' l j hj]
  by_cases a : j % 3 = 0
  · rw [if_pos a, ← c0]; congr 2; omega
  · rw [if_neg a]
    by_cases b : j % 3 = 1
    · rw [if_pos b, ← c1]; congr 2; omega
    · rw [if_neg b, ← c2]; congr 2; omega
theorem c3_one {l : List D3} : ∀ u ∈ c3 l, u.oneCell' = true := by
  intro u hu
  simp only [c3, List.mem_flatMap, List.mem_cons, List.not_mem_nil, or_false] at hu
  obtain ⟨d, _, h⟩ := hu
  rcases h with h | h | h <;> subst h <;> rfl
/-- Six cells and three marks of two blocks. -/
structure Six (W : World) (n : Nat) (a b c x y z : Value) : Prop where
  a : W.cell? ⟨n, 0, none⟩ = some a
  b : W.cell? ⟨n, 1, none⟩ = some b
  c : W.cell? ⟨n, 2, none⟩ = some c
  x : W.cell? ⟨n + 1, 0, none⟩ = some x
  y : W.cell? ⟨n + 1, 1, none⟩ = some y
  z : W.cell? ⟨n + 1, 2, none⟩ = some z
  fx : W.frozen? ⟨n + 1, 0, none⟩ = false
  fy : W.frozen? ⟨n + 1, 1, none⟩ = false
  fz : W.frozen? ⟨n + 1, 2, none⟩ = false
  sz : n + 1 < W.heap.size
theorem Six.later {W W' : World} {n : Nat} {a b c x y z : Value} (h : Six W n a b c x y z) (hb : Below W.heap.size W W') : Six W' n a b c x y z := by
  have hs := h.sz
  have hz := hb.size
  refine ⟨?_, ?_, ?_, ?_, ?_, ?_, ?_, ?_, ?_, by omega⟩
  · rw [hb.cell (p := ⟨n, 0, none⟩) (by show n < _; omega)]; exact h.a
  · rw [hb.cell (p := ⟨n, 1, none⟩) (by show n < _; omega)]; exact h.b
  · rw [hb.cell (p := ⟨n, 2, none⟩) (by show n < _; omega)]; exact h.c
  · rw [hb.cell (p := ⟨n + 1, 0, none⟩) hs]; exact h.x
  · rw [hb.cell (p := ⟨n + 1, 1, none⟩) hs]; exact h.y
  · rw [hb.cell (p := ⟨n + 1, 2, none⟩) hs]; exact h.z
  · rw [hb.frozen (p := ⟨n + 1, 0, none⟩) hs]; exact h.fx
  · rw [hb.frozen (p := ⟨n + 1, 1, none⟩) hs]; exact h.fy
  · rw [hb.frozen (p := ⟨n + 1, 2, none⟩) hs]; exact h.fz
end Go.KD
namespace Go.Proofs.Ytbaahghfjmkeoaa
open Go.RowKit Go.KD
attribute [local go_sem] later_cell later_frozen
set_option maxHeartbeats 1000000 in
theorem cloneD_c (a : Option Addr) (cap n : Nat) (l : List D3) (w : World) (hn : n = l.length) (hA : D3C w a l) (hl : n ≤ 1048576) : Calls Try.prog 132 #[.slice a n cap] w fun e w' =>
    ∃ v, e = .returned v ∧ w'.ownsRow w.heap.size 55 3 v n (c3 l) ∧ Below w.heap.size w w' := by
  obtain ⟨i0, hi, hz0, hz1, hz2⟩ := info_parts infoA3
  have HN := Lib.hid hn; clear hn
  have he := fun (w : World) => Lib.run_eql_slice_nil (P := Try.prog) w 22 55 a n cap 0 0 Try.underlying22
  cases a with
  | none =>
    have h0 : l = [] := by
      cases l with
      | nil => rfl
      | cons x l => obtain ⟨b, off, h, _⟩ := hA 0 (by simp); cases h
    have H0 := Lib.hid h0; clear h0
    go_enter Try.func132, Try.ntmps132
    go_wp2
    go_ret
    refine ⟨_, rfl, ⟨?_, .inl ⟨rfl, ?_⟩⟩, Below.refl _ _⟩
    · rw [H0.out, HN.out, H0.out]; rfl
    · rw [HN.out, H0.out]; rfl
  | some ad =>
    have hnews : Hid (∀ j u, (c3 l)[j]? = some u → w.cell? (ad.add j) = some u) := d3_news hA
    have hlt : Hid (∀ j u, (c3 l)[j]? = some u → ad.block < w.heap.size) := fun j u hu => World.block_lt_of_cell? w (ad.add j) (hnews.out j u hu) |> fun h => by unfold Addr.add at h; split at h <;> exact h
    have HLC := Lib.hid (length_c3 l)
    go_enter Try.func132, Try.ntmps132
    go_wp2_with (at_builtin; refine wpList_append_own _ rfl _ _ 22 rfl w.heap.size 55 i0 (.agg #[.int .i64 0, .int .i64 0, .int .i64 0]) 3 24 Try.underlying22 hi hz0 hz1 hz2 rfl (by decide) _ _ _ rfl (World.ownsRow_lit w #[] 0 (Nat.le_refl _) (by unfold maxLen; omega) rfl) ad n cap (c3 l) rfl ?_ ?_ ?_ ?_ ?_ ?_ ?_; (rw [HLC.out, HN.out]); (intro j u hu; rw [World.cell?_alloc_lt _ _ _ (by have := hlt.out j u hu; unfold Addr.add; split <;> exact this)]; exact hnews.out j u hu); (exact c3_one); (unfold maxLen; omega); omega; (simp); intro v' w1 hown' hgrow _)
    go_ret
    refine ⟨_, rfl, by simpa using hown', ((Below.refl _ _).alloc (Nat.le_refl _) _).grown hgrow (by simp) (fun g hg => by cases hg; exact Nat.le_refl _)⟩
set_option maxRecDepth 100000 in
set_option maxHeartbeats 4000000 in
theorem own_c (v : Value) (m : Mz) (w : World) (hm : MzAt w v m) : Calls Try.prog 112 #[v] w fun e w' =>
    ∃ u, e = .returned u ∧ MzOwn w.heap.size w'.heap.size w' u m ∧ Below w.heap.size w w' := by
  have hM := hm
  obtain ⟨⟨ad, cd, ak, ck, rfl, hd, hk'⟩, nd, nk⟩ := hM
  go_enter Try.func112, Try.ntmps112
  go_wp2
  obtain ⟨wo, hW⟩ : ∃ wo, wo = (w.alloc (.cells #[.int .i64 m.size, .slice ad m.doors.length cd, .slice ak m.keys.length ck] 29)).alloc (.cells #[.int .i64 0, .slice none 0 0, .slice none 0 0] 29) := ⟨_, rfl⟩
  have H6 : Six wo w.heap.size (.int .i64 m.size) (.slice ad m.doors.length cd) (.slice ak m.keys.length ck) (.int .i64 0) (.slice none 0 0) (.slice none 0 0) := by
    rw [hW]; exact ⟨by simp [go_sem], by simp [go_sem], by simp [go_sem], by simp [go_sem], by simp [go_sem], by simp [go_sem], by simp [go_sem], by simp [go_sem], by simp [go_sem], by simp⟩
  have HB : Hid (Below w.heap.size w wo) := by rw [hW]; exact ((Below.refl _ _).alloc (Nat.le_refl _) _).alloc (by simp) _
  rw [← hW]
  clear hW
  obtain ⟨q0, q1, q2, q3, q4, q5, q6, q7, q8, q9⟩ := H6
  have H6 := Lib.hid (Six.mk q0 q1 q2 q3 q4 q5 q6 q7 q8 q9)
  have hz := HB.out.size
  go_region_held3 (fun W => W.cell? ⟨w.heap.size, 0, none⟩ = some (.int .i64 m.size) ∧ W.cell? ⟨w.heap.size, 1, none⟩ = some (.slice ad m.doors.length cd) ∧ W.cell? ⟨w.heap.size, 2, none⟩ = some (.slice ak m.keys.length ck))
    (first | exact ⟨q0, q1, q2⟩ | exact ⟨r0, r1, r2⟩ | exact ⟨s0, s1, s2⟩ | (refine ⟨?_, ?_, ?_⟩ <;> (repeat rw [World.cell?_setCell_other _ _ _ _ (by simp)]) <;> first | exact s0 | exact s1 | exact s2))
    (first | (go_at_call 132; refine (cloneD_c _ _ _ m.doors _ rfl (hd.later HB.out.drew) nd).mono ?_; rintro e w2 ⟨v2, rfl, ho2, hb2⟩; obtain ⟨a2, c2, rfl⟩ := own_slice ho2; have HO2 := Lib.hid (Own.of ho2); clear ho2; obtain ⟨r0, r1, r2, r3, r4, r5, r6, r7, r8, r9⟩ := H6.out.later ((Below.refl _ _).drew.trans hb2)) | (go_at_call 113; refine (clone_c _ _ _ m.keys _ rfl (hk'.later (below_then HB.out.drew hb2)) nk).mono ?_; rintro e w3 ⟨v3, rfl, ho3, hb3⟩; obtain ⟨a3, c3, rfl⟩ := own_slice ho3; have HO3 := Lib.hid (Own.of ho3); clear ho3; obtain ⟨s0, s1, s2, s3, s4, s5, s6, s7, s8, s9⟩ := (H6.out.later ((Below.refl _ _).drew.trans hb2)).later hb3))
  have hz2 : w.heap.size + 2 ≤ w2.heap.size := by have := r9; omega
  have hz3 := hb3.size
  have hzo : w.heap.size + 2 ≤ wo.drew.heap.size := by have := H6.out.sz; show _ ≤ wo.heap.size; omega
  have O2 := HO2.out.later hb3 (Nat.le_refl _)
  have O3 := HO3.out
  have hap := O2.apart O3 (.inl (Nat.le_refl _))
  have hB3 : Below w.heap.size w w3 := below_then (below_then HB.out.drew hb2) hb3
  go_wp2
  refine bodyPost_ret (v := .agg #[.int .i64 m.size, .slice a2 m.doors.length c2, .slice a3 m.keys.length c3]) (by simp [results, Try.results112, go_sem, s3, s4, s5]) rfl ?_
  refine ⟨_, rfl, ⟨55, 3, _, _, rfl, ?_, ?_, hap⟩, ?_⟩
  · refine Own.mono (lo := wo.drew.heap.size) (hi := w2.heap.size) ?_ (by omega) (by simpa using hz3)
    repeat (first | exact O2 | refine Own.setCell ?_ (.inl (by show w.heap.size + 1 < _; omega)) _)
  · refine Own.mono (lo := w2.heap.size) (hi := w3.heap.size) ?_ (by omega) (by simp)
    repeat (first | exact O3 | refine Own.setCell ?_ (.inl (by show w.heap.size + 1 < _; omega)) _)
  · repeat (first | exact hB3 | refine Below.setCell ?_ (by show w.heap.size ≤ w.heap.size + 1; omega) _)
end Go.Proofs.Ytbaahghfjmkeoaa
