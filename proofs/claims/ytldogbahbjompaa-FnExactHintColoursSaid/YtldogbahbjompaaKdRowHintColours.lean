/- 'laws.FnExactHintColours' returns true for every input, and its inputs read afterwards as before. No condition. -/
import Derived.Test.YtldogbahbjompaaRows
import Derived.Test.YtldogbahbjompaaKdLawHintColours
namespace Go.Proofs.Ytldogbahbjompaa.lawHintColours
open Go.ChangeShapes Go.WideShapes Go.ChangeAt Go.RowKit Go.Joins Go.KD
set_option linter.unusedVariables false
theorem own : ownKnob Try.prog.godebug = none := by kernel_rfl
theorem laidOut : laidOutB Try.prog = true := by kernel_rfl
theorem cI : Try.prog.cellsOf 3 = 1 := by kernel_rfl
theorem cW : Try.prog.cellsOf 25 = 3 := by kernel_rfl
theorem cA : Try.prog.cellsOf 103 = 3 := by kernel_rfl
set_option maxRecDepth 100000 in
theorem lifted (os : Os) (started : os.Started) (H : Type) (enc : TypeId × Value → H) :
    ReturnsInHanded {} Try.checked os 4 .any (Rows.fnExactHintColoursSpec.pre6 enc Try.prog Try.f4 Rows.fnExactHintColoursRow.domain false) (Rows.fnExactHintColoursSpec.post enc Try.prog Try.f4 false true false false) := by
  refine returnsInHanded_of_change (C := Try.checked) own started (by kernel_rfl) Try.func4
    (ChangeSpec.witness6 (enc := enc) (C := Try.checked) false ⟨#[], #[.agg #[.int .i64 0, .slice none 0 0, .slice none 0 0], .slice none 0 0], []⟩ 8 (by kernel_rfl) (by kernel_rfl) (by kernel_rfl) (by kernel_rfl)) ?_
  intro W base args ds gs before hval0 hW hcnd _
  have hval : ∀ (j : Nat) t v, Try.f4.params[j]? = some t → args[j]? = some v → Value.okWide Try.prog W .any base t v := hval0
  have hW' := hW
  obtain ⟨p, q, hA0, hV, rfl, hfz, hnd⟩ := hW
  have hA : DataW.TrodAll enc Try.prog W 0 (fun _ => true) true Try.f4.params.toList args.toList ds p := hA0
  rw [Try.params4] at hA hval
  obtain ⟨v0, vs0, d0, ds0, p0, q0, hargs, rfl, rfl, h0, r0⟩ := trodAll_cons hA
  obtain ⟨v1, vs1, d1, ds1, p1, q1, rfl, rfl, rfl, h1, r1⟩ := trodAll_cons r0
  obtain ⟨rfl, rfl, rfl⟩ := trodAll_nil r1
  obtain rfl : args = #[v0, v1] := by cases args; simp_all
  obtain ⟨rfl, rfl⟩ := trodVars_none hV
  have k0 := h0
  have lt0 : ∀ x ∈ p0, x.block < W.heap.size := by obtain ⟨m, hm⟩ := k0; exact DataW.trod_lt m _ _ _ hm
  obtain ⟨c0, c1, c2, y0, y1, y2, fuel, rfl, -, -, hy0, hy1, hy2⟩ := open_agg3 Try.underlying25 (by kernel_rfl) cW (hval 0 25 v0 rfl rfl) h0
  obtain ⟨s, e0, -, ws⟩ := DataW.trod_int Try.underlying3 hy0
  simp at e0; subst e0
  obtain ⟨ad, cd, gs', rfl, ld, hd, wd⟩ := open_d3 Try.underlying22 Try.underlying103 Try.underlying3 cA cI hy1
  obtain ⟨ak, ck, ps, rfl, lk, hk, wk⟩ := open_ic Try.underlying23 Try.underlying3 cI hy2
  have k1 := h1
  have lt1 : ∀ x ∈ p1, x.block < W.heap.size := by obtain ⟨m, hm⟩ := k1; exact DataW.trod_lt m _ _ _ hm
  obtain ⟨as1, cs1, ls1, rfl, ls1n, hs1, ws1⟩ : ∃ a cap, ∃ l : List Int, v1 = .slice a l.length cap ∧ l.length ≤ maxLen ∧ IC W a l ∧ ∀ n ∈ l, wfI n := by
    obtain ⟨aa, ll, cc, rfl⟩ := okWide_slice Try.underlying23 (hval 1 23 v1 rfl rfl)
    obtain ⟨fuel, hf⟩ := h1
    exact open_ic Try.underlying23 Try.underlying3 cI hf
  clear hA0 hval0
  refine (lawHintColours_c ad ak cd ck ⟨s, gs', ps⟩ as1 cs1 ls1 W hd hk ld lk hs1 ls1n ws1).mono fun e W' ⟨he, bel⟩ => ?_
  subst he
  exact ⟨_, rfl, _, _, _, [], _, [], hW', trodAll_mk1 (shut_bool Try.underlying4 _), (trodAll_cons_mk (Below.trod laidOut (by kernel_rfl) (of_decide_eq_true (by kernel_rfl)) k0 bel lt0) (trodAll_cons_mk (Below.trod laidOut (by kernel_rfl) (of_decide_eq_true (by kernel_rfl)) k1 bel lt1) trodAll_mk0)), rfl, bel.frame _, fun h => by cases h⟩
theorem over : Rows.fnExactHintColoursRow.holds Try.pinned (OpenSpec.ofChange Rows.fnExactHintColoursSpec) :=
  OpenClaim.holds_of_wide 4 Try.f4 rfl rfl rfl rfl rfl rfl rfl ⟨rfl, rfl, rfl, rfl, rfl⟩ rfl rfl rfl rfl rfl (by kernel_rfl) Try.func4 (by kernel_rfl)
    (of_decide_eq_true (by kernel_rfl)) (by unfold Func.isWrapper; first | (rw [if_pos (by decide +kernel)]; kernel_rfl) | (rw [if_neg (by decide +kernel)]; exact ⟨rfl, rfl⟩))
    (fun os started H enc _ => lifted os started H enc)
end Go.Proofs.Ytldogbahbjompaa.lawHintColours
namespace Go.Proofs.Ytldogbahbjompaa
theorem hintColours_holds : Rows.FnExactHintColoursSaid := lawHintColours.over
end Go.Proofs.Ytldogbahbjompaa
