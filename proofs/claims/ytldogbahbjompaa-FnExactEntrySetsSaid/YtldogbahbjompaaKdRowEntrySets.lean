/- 'laws.FnExactEntrySets' returns true for every input, and its inputs read afterwards as before. No condition. -/
import Derived.Test.YtldogbahbjompaaRows
import Derived.Test.YtldogbahbjompaaKdLawEntrySets
namespace Go.Proofs.Ytldogbahbjompaa.lawEntrySets
open Go.ChangeShapes Go.WideShapes Go.ChangeAt Go.RowKit Go.Joins Go.KD
set_option linter.unusedVariables false
theorem own : ownKnob Try.prog.godebug = none := by kernel_rfl
theorem laidOut : laidOutB Try.prog = true := by kernel_rfl
theorem cI : Try.prog.cellsOf 3 = 1 := by kernel_rfl
theorem cW : Try.prog.cellsOf 25 = 3 := by kernel_rfl
theorem cA : Try.prog.cellsOf 103 = 3 := by kernel_rfl
set_option maxRecDepth 100000 in
theorem lifted (os : Os) (started : os.Started) (H : Type) (enc : TypeId × Value → H) :
    ReturnsInHanded {} Try.checked os 8 .any (Rows.fnExactEntrySetsSpec.pre6 enc Try.prog Try.f8 Rows.fnExactEntrySetsRow.domain false) (Rows.fnExactEntrySetsSpec.post enc Try.prog Try.f8 false true false false) := by
  refine returnsInHanded_of_change (C := Try.checked) own started (by kernel_rfl) Try.func8
    (ChangeSpec.witness6 (enc := enc) (C := Try.checked) false ⟨#[], #[.agg #[.int .i64 0, .slice none 0 0, .slice none 0 0]], []⟩ 8 (by kernel_rfl) (by kernel_rfl) (by kernel_rfl) (by kernel_rfl)) ?_
  intro W base args ds gs before hval0 hW hcnd _
  have hval : ∀ (j : Nat) t v, Try.f8.params[j]? = some t → args[j]? = some v → Value.okWide Try.prog W .any base t v := hval0
  have hW' := hW
  obtain ⟨p, q, hA0, hV, rfl, hfz, hnd⟩ := hW
  have hA : DataW.TrodAll enc Try.prog W 0 (fun _ => true) true Try.f8.params.toList args.toList ds p := hA0
  rw [Try.params8] at hA hval
  obtain ⟨v0, vs0, d0, ds0, p0, q0, hargs, rfl, rfl, h0, r0⟩ := trodAll_cons hA
  obtain ⟨rfl, rfl, rfl⟩ := trodAll_nil r0
  obtain rfl : args = #[v0] := by cases args; simp_all
  obtain ⟨rfl, rfl⟩ := trodVars_none hV
  have k0 := h0
  have lt0 : ∀ x ∈ p0, x.block < W.heap.size := by obtain ⟨m, hm⟩ := k0; exact DataW.trod_lt m _ _ _ hm
  obtain ⟨c0, c1, c2, y0, y1, y2, fuel, rfl, -, -, hy0, hy1, hy2⟩ := open_agg3 Try.underlying25 (by kernel_rfl) cW (hval 0 25 v0 rfl rfl) h0
  obtain ⟨s, e0, -, ws⟩ := DataW.trod_int Try.underlying3 hy0
  simp at e0; subst e0
  obtain ⟨ad, cd, gs', rfl, ld, hd, wd⟩ := open_d3 Try.underlying22 Try.underlying103 Try.underlying3 cA cI hy1
  obtain ⟨ak, ck, ps, rfl, lk, hk, wk⟩ := open_ic Try.underlying23 Try.underlying3 cI hy2
  clear hA0 hval0
  refine (lawEntrySets_c ad ak cd ck ⟨s, gs', ps⟩ W hd hk ld lk).mono fun e W' ⟨he, bel⟩ => ?_
  subst he
  exact ⟨_, rfl, _, _, _, [], _, [], hW', trodAll_mk1 (shut_bool Try.underlying4 _), (trodAll_cons_mk (Below.trod laidOut (by kernel_rfl) (of_decide_eq_true (by kernel_rfl)) k0 bel lt0) trodAll_mk0), rfl, bel.frame _, fun h => by cases h⟩
theorem over : Rows.fnExactEntrySetsRow.holds Try.pinned (OpenSpec.ofChange Rows.fnExactEntrySetsSpec) :=
  OpenClaim.holds_of_wide 8 Try.f8 rfl rfl rfl rfl rfl rfl rfl ⟨rfl, rfl, rfl, rfl, rfl⟩ rfl rfl rfl rfl rfl (by kernel_rfl) Try.func8 (by kernel_rfl)
    (of_decide_eq_true (by kernel_rfl)) (by unfold Func.isWrapper; first | (rw [if_pos (by decide +kernel)]; kernel_rfl) | (rw [if_neg (by decide +kernel)]; exact ⟨rfl, rfl⟩))
    (fun os started H enc _ => lifted os started H enc)
end Go.Proofs.Ytldogbahbjompaa.lawEntrySets
namespace Go.Proofs.Ytldogbahbjompaa
theorem entrySets_holds : Rows.FnExactEntrySetsSaid := lawEntrySets.over
end Go.Proofs.Ytldogbahbjompaa
