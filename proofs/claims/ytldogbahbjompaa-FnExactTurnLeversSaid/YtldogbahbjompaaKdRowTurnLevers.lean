/- 'laws.FnExactTurnLevers' returns true for every input, and its inputs read afterwards as before. No condition. -/
import Derived.Test.YtldogbahbjompaaRows
import Derived.Test.YtldogbahbjompaaKdLawTurnLevers
namespace Go.Proofs.Ytldogbahbjompaa.lawTurnLevers
open Go.ChangeShapes Go.WideShapes Go.ChangeAt Go.RowKit Go.Joins Go.KD
set_option linter.unusedVariables false
theorem own : ownKnob Try.prog.godebug = none := by kernel_rfl
theorem laidOut : laidOutB Try.prog = true := by kernel_rfl
theorem cI : Try.prog.cellsOf 3 = 1 := by kernel_rfl
theorem cW : Try.prog.cellsOf 37 = 3 := by kernel_rfl
theorem cA : Try.prog.cellsOf 88 = 4 := by kernel_rfl
set_option maxRecDepth 100000 in
theorem lifted (os : Os) (started : os.Started) (H : Type) (enc : TypeId × Value → H) :
    ReturnsInHanded {} Try.checked os 7 .any (Rows.fnExactTurnLeversSpec.pre6 enc Try.prog Try.f7 Rows.fnExactTurnLeversRow.domain false) (Rows.fnExactTurnLeversSpec.post enc Try.prog Try.f7 false true false false) := by
  refine returnsInHanded_of_change (C := Try.checked) own started (by kernel_rfl) Try.func7
    (ChangeSpec.witness6 (enc := enc) (C := Try.checked) false ⟨#[], #[.agg #[.int .i64 0, .slice none 0 0, .slice none 0 0], .int .i64 0], []⟩ 8 (by kernel_rfl) (by kernel_rfl) (by kernel_rfl) (by kernel_rfl)) ?_
  intro W base args ds gs before hval0 hW hcnd _
  have hval : ∀ (j : Nat) t v, Try.f7.params[j]? = some t → args[j]? = some v → Value.okWide Try.prog W .any base t v := hval0
  have hW' := hW
  obtain ⟨p, q, hA0, hV, rfl, hfz, hnd⟩ := hW
  have hA : DataW.TrodAll enc Try.prog W 0 (fun _ => true) true Try.f7.params.toList args.toList ds p := hA0
  rw [Try.params7] at hA hval
  obtain ⟨v0, vs0, d0, ds0, p0, q0, hargs, rfl, rfl, h0, r0⟩ := trodAll_cons hA
  obtain ⟨v1, vs1, d1, ds1, p1, q1, rfl, rfl, rfl, h1, r1⟩ := trodAll_cons r0
  obtain ⟨rfl, rfl, rfl⟩ := trodAll_nil r1
  obtain rfl : args = #[v0, v1] := by cases args; simp_all
  obtain ⟨rfl, rfl⟩ := trodVars_none hV
  have k0 := h0
  have lt0 : ∀ x ∈ p0, x.block < W.heap.size := by obtain ⟨m, hm⟩ := k0; exact DataW.trod_lt m _ _ _ hm
  obtain ⟨c0, c1, c2, y0, y1, y2, fuel, rfl, -, -, hy0, hy1, hy2⟩ := open_agg3 Try.underlying37 (by kernel_rfl) cW (hval 0 37 v0 rfl rfl) h0
  obtain ⟨s, e0, -, ws⟩ := DataW.trod_int Try.underlying3 hy0
  simp at e0; subst e0
  obtain ⟨ad, cd, gs', rfl, ld, hd, wd⟩ := open_d4 Try.underlying35 Try.underlying88 Try.underlying3 cA cI hy1
  obtain ⟨ak, ck, ps, rfl, lk, hk, wk⟩ := open_ic Try.underlying23 Try.underlying3 cI hy2
  obtain ⟨i1, rfl, rfl, rfl, wi1⟩ := open_int Try.underlying3 (hval 1 3 v1 rfl rfl) h1
  clear hA0 hval0
  refine (lawTurnLevers_c ad ak cd ck ⟨s, gs', ps⟩ i1 W hd hk ld lk wi1).mono fun e W' ⟨he, bel⟩ => ?_
  subst he
  exact ⟨_, rfl, _, _, _, [], _, [], hW', trodAll_mk1 (shut_bool Try.underlying4 _), (trodAll_cons_mk (Below.trod laidOut (by kernel_rfl) (of_decide_eq_true (by kernel_rfl)) k0 bel lt0) (trodAll_cons_mk (shut_int Try.underlying3 wi1) trodAll_mk0)), rfl, bel.frame _, fun h => by cases h⟩
theorem over : Rows.fnExactTurnLeversRow.holds Try.pinned (OpenSpec.ofChange Rows.fnExactTurnLeversSpec) :=
  OpenClaim.holds_of_wide 7 Try.f7 rfl rfl rfl rfl rfl rfl rfl ⟨rfl, rfl, rfl, rfl, rfl⟩ rfl rfl rfl rfl rfl (by kernel_rfl) Try.func7 (by kernel_rfl)
    (of_decide_eq_true (by kernel_rfl)) (by unfold Func.isWrapper; first | (rw [if_pos (by decide +kernel)]; kernel_rfl) | (rw [if_neg (by decide +kernel)]; exact ⟨rfl, rfl⟩))
    (fun os started H enc _ => lifted os started H enc)
end Go.Proofs.Ytldogbahbjompaa.lawTurnLevers
namespace Go.Proofs.Ytldogbahbjompaa
theorem turnLevers_holds : Rows.FnExactTurnLeversSaid := lawTurnLevers.over
end Go.Proofs.Ytldogbahbjompaa
