/- Contracts of depth and l9Depth. Printed by gen_lay2.py. -/
import Derived.Test.YtbjcabphiddjgaaKdLay1
import Derived.Test.YtbjcabphiddjgaaKdEnt3
set_option linter.unusedVariables false
set_option linter.unusedSimpArgs false
namespace Go.KD
open Go.RowKit
def depN (m : Mz) (s : Nat) (f : List Int) : Int := (entF (layM m (mem s) f) 0)[m.keys.length - 1]!
theorem fill_len {m : Mz} {s : Nat} {f : List Int} (hs : s < 64) (h : fillB m (s : Int) f = true) : f.length = (mem s).length := by
  unfold fillB at h
  rw [Bool.and_eq_true, decide_eq_true_eq] at h
  have := h.1
  simp only [popc, Int.toNat_natCast] at this
  rw [mem_len s hs]
  omega
theorem fill_in {m : Mz} {s : Int} {f : List Int} (h : fillB m s f = true) : ∀ j, j < f.length → 0 ≤ f[j]! ∧ f[j]! < m.size := by
  unfold fillB at h
  rw [Bool.and_eq_true] at h
  intro j hj
  have h1 : inB f[j]! 0 (m.size - 1) = true := by
    cases e : inB f[j]! 0 (m.size - 1)
    · have h2 := nodesB_no hj e
      rw [h.2] at h2
      cases h2
    · rfl
  rw [inB_true] at h1
  omega
theorem entS_nn (i : Nat) (x : Int) : ∀ out : List Int, (∀ j, j < out.length → 0 ≤ out[j]!) → ∀ j, j < out.length → 0 ≤ (entS i out x)[j]! := by
  intro out h j hj
  unfold entS
  split
  · rw [getElem!_pos _ j (by simpa using hj), List.getElem_set]
    split
    · omega
    · have := h j hj
      rwa [getElem!_pos _ j hj] at this
  · exact h j hj
theorem entJ_nn (i : Nat) (l : List Int) : ∀ out : List Int, (∀ j, j < out.length → 0 ≤ out[j]!) → ∀ j, j < out.length → 0 ≤ (l.foldl (entS i) out)[j]! := by
  induction l with
  | nil => intro out h; exact h
  | cons a l ih =>
    intro out h j hj
    exact ih (entS i out a) (fun k hk => entS_nn i a out h k (by simpa using hk)) j (by simpa using hj)
theorem entK_nn (m : Mz) (s : Nat) : ∀ k j, j < (entK m s k).length → 0 ≤ (entK m s k)[j]!
  | 0, j, h => by
    have h' : j < m.keys.length := by simpa [entK] using h
    show 0 ≤ (List.replicate m.keys.length (0 : Int))[j]!
    rw [getElem!_pos _ j (by simpa using h')]; simp
  | k + 1, j, h => by
    have hl : (entK m s (k + 1)).length = m.keys.length := entK_len m s (k + 1)
    exact entJ_nn k _ _ (entK_nn m s k) j (by rw [entK_len m s k]; omega)
theorem depN_nn {m : Mz} (ok : MzOk m) (s : Nat) (f : List Int) : 0 ≤ depN m s f := by
  have h0 := ok.nk
  have h1 := ok.s1
  have hl : (layM m (mem s) f).keys.length = m.keys.length := by simp [layM]
  exact entK_nn _ 0 _ _ (by rw [entK_len, hl]; omega)
end Go.KD
namespace Go.Proofs.Ytbjcabphiddjgaa
open Go.RowKit Go.KD
attribute [local go_sem] later_cell later_frozen
set_option maxRecDepth 100000 in
set_option maxHeartbeats 16000000 in
theorem depth_c (v : Value) (m : Mz) (s : Nat) (af : Option Addr) (cf : Nat) (f : List Int) (w : World) (hm : MzAt w v m) (ok : MzOk m) (hs : s < 64) (hf : IC w af f) (hfl : fillB m (s : Int) f = true) :
    Calls Try.prog 89 #[v, .int .i64 s, .slice af f.length cf] w fun e w' => e = .returned (.int .i64 (depN m s f)) ∧ Below w.heap.size w w' := by
  have hM := hm
  obtain ⟨⟨ad, cd, ak, ck, rfl, hd, hk'⟩, nd, nk⟩ := hM
  have hs1 : 1 ≤ m.size := ok.s1
  have hs12 : m.size ≤ 12 := ok.s2
  have hnk : (m.keys.length : Int) = m.size := ok.nk
  have HLEN : Hid (f.length = (mem s).length) := fill_len hs hfl
  have HFR : Hid (∀ j, j < f.length → 0 ≤ f[j]! ∧ f[j]! < m.size) := fill_in hfl
  have HCS : Hid (∀ j, j < (mem s).length → 0 ≤ (mem s)[j]! ∧ (mem s)[j]! < 6) := fun j hj => mem_six hs hj
  have HF12 : Hid (f.length ≤ 12) := by show _ ≤ _; have h1 := HLEN.out; have h2 := mem_len40' s; rw [mem_len s hs] at h1; have := popN_le s; omega
  have HLOK : Hid (MzOk (layM m (mem s) f)) := layM_ok ok (fun j hj => HCS.out j (by have := HLEN.out; omega))
  have HLL : Hid ((layM m (mem s) f).keys.length = m.keys.length) := by show _ = _; simp [layM]
  have HLD : Hid ((layM m (mem s) f).doors.length = m.doors.length) := rfl
  have OK := Lib.hid ok
  obtain ⟨n1, hn1⟩ : ∃ n1, m.keys.length = n1 + 1 := ⟨m.keys.length - 1, by omega⟩
  have HN := Lib.hid hn1
  have hix : IntKind.i64.wrap (m.size - 1) = (n1 : Int) := by rw [IntKind.wrap_i64]; omega
  have hn1k : n1 < m.keys.length := by omega
  have hn1S : (n1 : Int) < m.size := by omega
  have hn1I : (n1 : Int) < (m.keys.length : Int) := by omega
  have HDEP : Hid (depN m s f = (entF (layM m (mem s) f) 0)[n1]!) := by show _ = _; unfold depN; rw [hn1]; rfl
  clear ok hfl hn1
  go_enter Try.func89, Try.ntmps89
  go_wp2
  have hb0 : Below (w.heap.size + 1) (w.alloc (.cells #[.int .i64 m.size, .slice ad m.doors.length cd, .slice ak m.keys.length ck] 29)) (w.alloc (.cells #[.int .i64 m.size, .slice ad m.doors.length cd, .slice ak m.keys.length ck] 29)).drew := (Below.refl _ _).drew
  obtain ⟨q0, q1, q2, z1⟩ := box3 hb0 (by omega)
  go_region_law (go_simp; go_wp2_with (first
      | (go_at_call 61; refine (members_c s (by omega) _).mono ?_; rintro e w1 ⟨v1, rfl, ho1, hb1⟩; obtain ⟨a1, c1, rfl, -, hc1⟩ := (Own.of ho1).ic; have r0 : w1.cell? ⟨w.heap.size, 0, none⟩ = some (.int .i64 m.size) := (hb1.cell (p := ⟨w.heap.size, 0, none⟩) (by first | assumption | (simp; done) | (simp; omega))).trans (by simp [go_sem]); have r1 : w1.cell? ⟨w.heap.size, 1, none⟩ = some (.slice ad m.doors.length cd) := (hb1.cell (p := ⟨w.heap.size, 1, none⟩) (by first | assumption | (simp; done) | (simp; omega))).trans (by simp [go_sem]); have r2 : w1.cell? ⟨w.heap.size, 2, none⟩ = some (.slice ak m.keys.length ck) := (hb1.cell (p := ⟨w.heap.size, 2, none⟩) (by first | assumption | (simp; done) | (simp; omega))).trans (by simp [go_sem]); have z2 : w.heap.size < w1.heap.size := Nat.lt_of_lt_of_le z1 hb1.size; have HB1 : Hid (Below (w.heap.size + 1) (w.alloc (.cells #[.int .i64 m.size, .slice ad m.doors.length cd, .slice ak m.keys.length ck] 29)) w1) := (Below.refl _ _).drew.trans (hb1.mono (by simp)))
      | (go_at_call 86; refine (laid_c _ m _ _ (mem s) _ _ f _ (hm.later (below_box HB1.out (by omega))) OK.out hc1 (hf.later (below_box HB1.out (by omega))) HLEN.out HCS.out HFR.out HF12.out).mono ?_; rintro e w2 ⟨v2, rfl, ho2, hb2⟩; have s0 : w2.cell? ⟨w.heap.size, 0, none⟩ = some (.int .i64 m.size) := (hb2.cell (p := ⟨w.heap.size, 0, none⟩) (by first | assumption | (simp; done) | (simp; omega))).trans r0; have s1 : w2.cell? ⟨w.heap.size, 1, none⟩ = some (.slice ad m.doors.length cd) := (hb2.cell (p := ⟨w.heap.size, 1, none⟩) (by first | assumption | (simp; done) | (simp; omega))).trans r1; have s2 : w2.cell? ⟨w.heap.size, 2, none⟩ = some (.slice ak m.keys.length ck) := (hb2.cell (p := ⟨w.heap.size, 2, none⟩) (by first | assumption | (simp; done) | (simp; omega))).trans r2; have z3 : w.heap.size < w2.heap.size := Nat.lt_of_lt_of_le z2 hb2.size; have HM2 := Lib.hid (ho2.mz (by rw [HLD.out]; omega) (by rw [HLL.out]; omega)); have HB2 : Hid (Below (w.heap.size + 1) (w.alloc (.cells #[.int .i64 m.size, .slice ad m.doors.length cd, .slice ak m.keys.length ck] 29)) w2) := HB1.out.trans (hb2.mono (by omega)))
      | (go_at_call 119; refine (nodeRounds_c _ (layM m (mem s) f) 0 _ HM2.out HLOK.out (by omega)).mono ?_; rintro e w3 ⟨v3, rfl, ho3, hb3⟩; rw [HLL.out] at ho3; obtain ⟨gr, cr, rfl, -, -⟩ := ho3.form (by omega); have t0 : w3.cell? ⟨w.heap.size, 0, none⟩ = some (.int .i64 m.size) := (hb3.cell (p := ⟨w.heap.size, 0, none⟩) (by first | assumption | (simp; done) | (simp; omega))).trans s0; have t1 : w3.cell? ⟨w.heap.size, 1, none⟩ = some (.slice ad m.doors.length cd) := (hb3.cell (p := ⟨w.heap.size, 1, none⟩) (by first | assumption | (simp; done) | (simp; omega))).trans s1; have t2 : w3.cell? ⟨w.heap.size, 2, none⟩ = some (.slice ak m.keys.length ck) := (hb3.cell (p := ⟨w.heap.size, 2, none⟩) (by first | assumption | (simp; done) | (simp; omega))).trans s2; have z4 : w.heap.size < w3.heap.size := Nat.lt_of_lt_of_le z3 hb3.size; have HB3 : Hid (Below (w.heap.size + 1) (w.alloc (.cells #[.int .i64 m.size, .slice ad m.doors.length cd, .slice ak m.keys.length ck] 29)) w3) := HB2.out.trans (hb3.mono (by omega)); have e9 := own_intK ho3 n1 (by omega) (by unfold entF; rw [entK_len]; exact HLL.out); rw [← HDEP.out] at e9)))
  all_goals
    simp only [List.getElem_toArray, List.getElem_cons_succ, List.getElem_cons_zero, List.size_toArray, List.length_cons, List.length_nil, Act.put, Act.eval, List.setIfInBounds_toArray, List.set_cons_succ, List.set_cons_zero]
    go_wp2
    go_ret
    exact ⟨rfl, below_box HB3.out (by omega)⟩
set_option maxRecDepth 100000 in
set_option maxHeartbeats 16000000 in
theorem l9Depth_c (v : Value) (m : Mz) (s : Nat) (af : Option Addr) (cf : Nat) (f : List Int) (w : World) (hm : MzAt w v m) (ok : MzOk m) (hs : s < 64) (hf : IC w af f) (hfl : fillB m (s : Int) f = true) :
    Calls Try.prog 88 #[v, .int .i64 s, .slice af f.length cf] w fun e w' => e = .returned (.int .i64 (depN m s f)) ∧ Below w.heap.size w w' := by
  have hM := hm
  obtain ⟨⟨ad, cd, ak, ck, rfl, hd, hk'⟩, nd, nk⟩ := hM
  have hs1 : 1 ≤ m.size := ok.s1
  have hs12 : m.size ≤ 12 := ok.s2
  have hnk : (m.keys.length : Int) = m.size := ok.nk
  have HLEN : Hid (f.length = (mem s).length) := fill_len hs hfl
  have HFR : Hid (∀ j, j < f.length → 0 ≤ f[j]! ∧ f[j]! < m.size) := fill_in hfl
  have HCS : Hid (∀ j, j < (mem s).length → 0 ≤ (mem s)[j]! ∧ (mem s)[j]! < 6) := fun j hj => mem_six hs hj
  have HF12 : Hid (f.length ≤ 12) := by show _ ≤ _; have h1 := HLEN.out; have h2 := mem_len40' s; rw [mem_len s hs] at h1; have := popN_le s; omega
  have HLOK : Hid (MzOk (layM m (mem s) f)) := layM_ok ok (fun j hj => HCS.out j (by have := HLEN.out; omega))
  have HLL : Hid ((layM m (mem s) f).keys.length = m.keys.length) := by show _ = _; simp [layM]
  have HLD : Hid ((layM m (mem s) f).doors.length = m.doors.length) := rfl
  have OK := Lib.hid ok
  obtain ⟨n1, hn1⟩ : ∃ n1, m.keys.length = n1 + 1 := ⟨m.keys.length - 1, by omega⟩
  have HN := Lib.hid hn1
  have hix : IntKind.i64.wrap (m.size - 1) = (n1 : Int) := by rw [IntKind.wrap_i64]; omega
  have hn1k : n1 < m.keys.length := by omega
  have hn1S : (n1 : Int) < m.size := by omega
  have hn1I : (n1 : Int) < (m.keys.length : Int) := by omega
  have HDEP : Hid (depN m s f = (entF (layM m (mem s) f) 0)[n1]!) := by show _ = _; unfold depN; rw [hn1]; rfl
  clear ok hfl hn1
  go_enter Try.func88, Try.ntmps88
  go_wp2
  have hb0 : Below (w.heap.size + 1) (w.alloc (.cells #[.int .i64 m.size, .slice ad m.doors.length cd, .slice ak m.keys.length ck] 29)) (w.alloc (.cells #[.int .i64 m.size, .slice ad m.doors.length cd, .slice ak m.keys.length ck] 29)).drew := (Below.refl _ _).drew
  obtain ⟨q0, q1, q2, z1⟩ := box3 hb0 (by omega)
  go_region_law (go_simp; go_wp2_with (first
      | (go_at_call 84; refine (l2Colours_c s hs _).mono ?_; rintro e w1 ⟨v1, rfl, ho1, hb1⟩; obtain ⟨a1, c1, rfl, -, hc1⟩ := (Own.of ho1).ic; have r0 : w1.cell? ⟨w.heap.size, 0, none⟩ = some (.int .i64 m.size) := (hb1.cell (p := ⟨w.heap.size, 0, none⟩) (by first | assumption | (simp; done) | (simp; omega))).trans (by simp [go_sem]); have r1 : w1.cell? ⟨w.heap.size, 1, none⟩ = some (.slice ad m.doors.length cd) := (hb1.cell (p := ⟨w.heap.size, 1, none⟩) (by first | assumption | (simp; done) | (simp; omega))).trans (by simp [go_sem]); have r2 : w1.cell? ⟨w.heap.size, 2, none⟩ = some (.slice ak m.keys.length ck) := (hb1.cell (p := ⟨w.heap.size, 2, none⟩) (by first | assumption | (simp; done) | (simp; omega))).trans (by simp [go_sem]); have z2 : w.heap.size < w1.heap.size := Nat.lt_of_lt_of_le z1 hb1.size; have HB1 : Hid (Below (w.heap.size + 1) (w.alloc (.cells #[.int .i64 m.size, .slice ad m.doors.length cd, .slice ak m.keys.length ck] 29)) w1) := (Below.refl _ _).drew.trans (hb1.mono (by simp)))
      | (go_at_call 83; refine (l9Lay_c _ m _ _ (mem s) _ _ f _ (hm.later (below_box HB1.out (by omega))) OK.out hc1 (hf.later (below_box HB1.out (by omega))) HLEN.out HCS.out HFR.out HF12.out).mono ?_; rintro e w2 ⟨v2, rfl, ho2, hb2⟩; have s0 : w2.cell? ⟨w.heap.size, 0, none⟩ = some (.int .i64 m.size) := (hb2.cell (p := ⟨w.heap.size, 0, none⟩) (by first | assumption | (simp; done) | (simp; omega))).trans r0; have s1 : w2.cell? ⟨w.heap.size, 1, none⟩ = some (.slice ad m.doors.length cd) := (hb2.cell (p := ⟨w.heap.size, 1, none⟩) (by first | assumption | (simp; done) | (simp; omega))).trans r1; have s2 : w2.cell? ⟨w.heap.size, 2, none⟩ = some (.slice ak m.keys.length ck) := (hb2.cell (p := ⟨w.heap.size, 2, none⟩) (by first | assumption | (simp; done) | (simp; omega))).trans r2; have z3 : w.heap.size < w2.heap.size := Nat.lt_of_lt_of_le z2 hb2.size; have HM2 := Lib.hid (ho2.mz (by rw [HLD.out]; omega) (by rw [HLL.out]; omega)); have HB2 : Hid (Below (w.heap.size + 1) (w.alloc (.cells #[.int .i64 m.size, .slice ad m.doors.length cd, .slice ak m.keys.length ck] 29)) w2) := HB1.out.trans (hb2.mono (by omega)))
      | (go_at_call 118; refine (l3Entered_c _ (layM m (mem s) f) 0 _ HM2.out HLOK.out (by omega)).mono ?_; rintro e w3 ⟨v3, rfl, ho3, hb3⟩; rw [HLL.out] at ho3; obtain ⟨gr, cr, rfl, -, -⟩ := ho3.form (by omega); have t0 : w3.cell? ⟨w.heap.size, 0, none⟩ = some (.int .i64 m.size) := (hb3.cell (p := ⟨w.heap.size, 0, none⟩) (by first | assumption | (simp; done) | (simp; omega))).trans s0; have t1 : w3.cell? ⟨w.heap.size, 1, none⟩ = some (.slice ad m.doors.length cd) := (hb3.cell (p := ⟨w.heap.size, 1, none⟩) (by first | assumption | (simp; done) | (simp; omega))).trans s1; have t2 : w3.cell? ⟨w.heap.size, 2, none⟩ = some (.slice ak m.keys.length ck) := (hb3.cell (p := ⟨w.heap.size, 2, none⟩) (by first | assumption | (simp; done) | (simp; omega))).trans s2; have z4 : w.heap.size < w3.heap.size := Nat.lt_of_lt_of_le z3 hb3.size; have HB3 : Hid (Below (w.heap.size + 1) (w.alloc (.cells #[.int .i64 m.size, .slice ad m.doors.length cd, .slice ak m.keys.length ck] 29)) w3) := HB2.out.trans (hb3.mono (by omega)); have e9 := own_intK ho3 n1 (by omega) (by unfold entF; rw [entK_len]; exact HLL.out); rw [← HDEP.out] at e9)))
  all_goals
    simp only [List.getElem_toArray, List.getElem_cons_succ, List.getElem_cons_zero, List.size_toArray, List.length_cons, List.length_nil, Act.put, Act.eval, List.setIfInBounds_toArray, List.set_cons_succ, List.set_cons_zero]
    go_wp2
    go_ret
    exact ⟨rfl, below_box HB3.out (by omega)⟩
end Go.Proofs.Ytbjcabphiddjgaa
