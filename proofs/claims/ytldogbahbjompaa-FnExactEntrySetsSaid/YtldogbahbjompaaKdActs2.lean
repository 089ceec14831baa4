/- Contracts of slices.Concat (two lists) and impl.acts. -/
import Derived.Test.YtldogbahbjompaaKdActs
set_option linter.unusedVariables false
set_option linter.unusedSimpArgs false
namespace Go.Proofs.Ytldogbahbjompaa
open Go.RowKit Go.KD
attribute [local go_sem] later_cell later_frozen
theorem own_room {w : World} {base : Nat} {e : TypeId} {size n m : Nat} {xs : List Value} {a : Option Addr} (h : w.ownsRow base e size (.slice a m n) m xs) : m ≤ n := by
  rcases h.2 with ⟨h, _⟩ | ⟨g, cap, cur, hv, _, _, h, _⟩
  · cases h; exact Nat.le_refl _
  · cases hv; exact h
set_option maxRecDepth 100000 in
set_option maxHeartbeats 4000000 in
theorem concat2_c (cb : Nat) (a1 a2 : Option Addr) (c1 c2 : Nat) (A B : List Int) (w : World) (q0 : w.cell? ⟨cb, 0, none⟩ = some (.slice a1 A.length c1)) (q1 : w.cell? ⟨cb, 1, none⟩ = some (.slice a2 B.length c2)) (h1 : IC w a1 A) (h2 : IC w a2 B) (n1 : 0 < A.length) (m1 : A.length ≤ 1000) (m2 : B.length ≤ 1000) (hcb : cb < w.heap.size) :
    Calls Try.prog 107 #[.slice (some ⟨cb, 0, none⟩) 2 2] w fun e w' => ∃ v, e = .returned v ∧ w'.ownsRow w.heap.size 3 1 v (A ++ B).length (ints (A ++ B)) ∧ Below w.heap.size w w' := by
  obtain ⟨i0, hi, hz0, hz1, hz2⟩ := info_parts infoI
  have d1 : decide ((A.length : Int) < 0) = false := by simp
  have d2 : decide ((A.length : Int) + (B.length : Int) < 0) = false := by simp; omega
  go_enter Try.func107, Try.ntmps107
  go_wp2
  refine wp_loop_rounds 3 ?_
  (rw [rounds_succ]; go_wp2)
  (rw [rounds_succ]; go_wp2)
  (rw [rounds_succ]; go_wp2_with fail)
  refine (grow_c (A.length + B.length) (by omega) (by omega) _).mono ?_
  rintro e w1 ⟨v1, rfl, ho1, hb1⟩
  have HO1 := Lib.hid ho1; clear ho1
  have HB1 : Hid (Below w.heap.size w w1) := hb1
  have hzz := hb1.size
  have p0 : w1.cell? ⟨cb, 0, none⟩ = some (.slice a1 A.length c1) := (hb1.cell (p := ⟨cb, 0, none⟩) hcb).trans q0
  have p1 : w1.cell? ⟨cb, 1, none⟩ = some (.slice a2 B.length c2) := (hb1.cell (p := ⟨cb, 1, none⟩) hcb).trans q1
  clear hb1 d1 d2
  have key : ∀ (a : Option Addr) (L : List Int) (W : World), IC W a L → 0 < L.length → ∃ ad, a = some ad ∧ ∀ j u, (ints L)[j]? = some u → W.cell? (ad.add j) = some u := by
    intro a L W h hl
    obtain ⟨b, off, hb, -, -⟩ := h 0 hl
    refine ⟨⟨b, off, none⟩, hb, fun j u hu => ?_⟩
    have hj : j < L.length := by
      rcases Nat.lt_or_ge j L.length with h | h
      · exact h
      · rw [List.getElem?_eq_none (by simpa using h)] at hu; cases hu
    obtain ⟨b', off', hb', -, hc⟩ := h j hj
    rw [hb] at hb'; cases hb'
    rw [add_at rfl, hc, ← hu, ints, List.getElem?_map, List.getElem?_eq_getElem hj, getElem!_pos L j hj]
    rfl
  obtain ⟨ad1, rfl, hn1⟩ := key _ _ _ (h1.later HB1.out) n1
  have HN1 := Lib.hid hn1; clear hn1
  go_wp2
  refine wp_loop_rounds 3 ?_
  (rw [rounds_succ]; go_wp2_with (at_builtin; refine wpList_append_own _ rfl _ _ 23 rfl w.heap.size 3 i0 (.int .i64 0) 1 8 Try.underlying23 hi hz0 hz1 hz2 rfl (by decide) _ _ _ rfl HO1.out ad1 A.length c1 (ints A) rfl ?_ ?_ ?_ ?_ ?_ ?_ ?_; (simp [length_ints]); (exact HN1.out); (intro u hu; simp only [ints, List.mem_map] at hu; obtain ⟨x, _, rfl⟩ := hu; rfl); (unfold maxLen; omega); omega; (exact hzz); intro v2 w2 hown2 hgrow2 _))
  have HO2 := Lib.hid hown2; clear hown2
  have HB2 : Hid (Below w.heap.size w w2) := HB1.out.grown hgrow2 hzz (fun g hg => own_block_lo HO1.out hg)
  have r1 : w2.cell? ⟨cb, 1, none⟩ = some (.slice a2 B.length c2) := (HB2.out.cell (p := ⟨cb, 1, none⟩) hcb).trans q1
  have hz22 := HB2.out.size
  clear hgrow2
  rcases Nat.eq_zero_or_pos B.length with hB | hB
  · obtain rfl : B = [] := List.length_eq_zero_iff.1 hB
    obtain ⟨g2, cap2, rfl, -, -⟩ := HO2.out.form (by omega)
    have hroom := own_room HO2.out
    simp only [List.length_nil] at r1
    cases a2 with
    | none =>
      (rw [rounds_succ]; go_wp2)
      (rw [rounds_succ]; go_wp2_with fail)
      go_ret
      refine ⟨_, rfl, ?_, HB2.out⟩
      have := HO2.out
      simpa [ints] using this
    | some ad2 =>
      (rw [rounds_succ]; go_wp2_with (at_builtin; refine wpList_append_own _ rfl _ _ 23 rfl w.heap.size 3 i0 (.int .i64 0) 1 8 Try.underlying23 hi hz0 hz1 hz2 rfl (by decide) _ _ _ rfl HO2.out ad2 0 c2 [] rfl ?_ ?_ ?_ ?_ ?_ ?_ ?_; (simp); (intro j u hu; simp at hu); (intro u hu; simp at hu); (unfold maxLen; omega); omega; (exact hz22); intro v3 w3 hown3 hgrow3 _))
      have HO3 := Lib.hid hown3; clear hown3
      have HB3 : Hid (Below w.heap.size w w3) := HB2.out.grown hgrow3 hz22 (fun g hg => own_block_lo HO2.out hg)
      (rw [rounds_succ]; go_wp2_with fail)
      go_ret
      refine ⟨_, rfl, ?_, HB3.out⟩
      have := HO3.out
      simpa [ints] using this
  · obtain ⟨ad2, rfl, hn2⟩ := key _ _ _ (h2.later HB2.out) hB
    have HN2 := Lib.hid hn2; clear hn2
    clear key
    (rw [rounds_succ]; go_wp2_with (at_builtin; refine wpList_append_own _ rfl _ _ 23 rfl w.heap.size 3 i0 (.int .i64 0) 1 8 Try.underlying23 hi hz0 hz1 hz2 rfl (by decide) _ _ _ rfl HO2.out ad2 B.length c2 (ints B) rfl ?_ ?_ ?_ ?_ ?_ ?_ ?_; (simp [length_ints]); (exact HN2.out); (intro u hu; simp only [ints, List.mem_map] at hu; obtain ⟨x, _, rfl⟩ := hu; rfl); (unfold maxLen; omega); omega; (exact hz22); intro v3 w3 hown3 hgrow3 _))
    have HO3 := Lib.hid hown3; clear hown3
    have HB3 : Hid (Below w.heap.size w w3) := HB2.out.grown hgrow3 hz22 (fun g hg => own_block_lo HO2.out hg)
    (rw [rounds_succ]; go_wp2_with fail)
    go_ret
    refine ⟨_, rfl, ?_, HB3.out⟩
    have := HO3.out
    simpa [ints] using this
end Go.Proofs.Ytldogbahbjompaa
