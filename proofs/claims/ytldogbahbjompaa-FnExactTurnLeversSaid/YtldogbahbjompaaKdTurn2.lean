/- The reference's gates in order: spec.l8Put. -/
import Derived.Test.YtldogbahbjompaaKdTurn1
import Derived.Test.YtldogbahbjompaaKdPut
import Derived.Deep.DeepCutAuto
import Derived.ChangeKeysEq
set_option linter.unusedVariables false
set_option linter.unusedSimpArgs false
namespace Go
open Go.Op
theorem run_eql4 {P : Program} (w : World) {t e : TypeId} {i : TypeInfo} (hu : P.underlying t = some (.array 4 e)) (hi : P.info? e = some i) (he : P.underlying e = some (.int .i64)) (hc : P.cellsOf e = 1) (x y z u x' y' z' u' : Int) :
    (binOp .eql t (.agg #[.int .i64 x, .int .i64 y, .int .i64 z, .int .i64 u]) (.agg #[.int .i64 x', .int .i64 y', .int .i64 z', .int .i64 u'])).run P w = .ok (.bool (decide ((x, y, z, u) = (x', y', z', u')))) w := by
  have h1 := fun (xs ys : Array Value) => run_equalIn_array (P := P) w 9999 (t := t) xs ys hu hi
  have hr : List.range 4 = [0, 1, 2, 3] := by decide
  simp only [binOp]
  simp only [Op.equal, Op.maxDepth, Sem.run_bind, h1, hc, hr]
  simp only [Op.eqItems, Sem.run_bind]
  simp [part, isAgg, run_underlying he, run_equalIn_int w _ e .i64 .i64 _ _ he]
  by_cases a : x = x' <;> by_cases b : y = y' <;> by_cases c : z = z' <;> by_cases d : u = u' <;> simp [a, b, c, d]
end Go
namespace Go.KD
open Go.RowKit
def CVQ (W : World) (b off : Nat) (vs : List Value) : Prop := ∀ j u, vs[j]? = some u → W.cell? ((⟨b, off, none⟩ : Addr).add j) = some u
theorem CVQ.later {W W' : World} {b off : Nat} {vs : List Value} (h : CVQ W b off vs) (hb : b < W.heap.size) (hB : Below W.heap.size W W') : CVQ W' b off vs := fun j u hu => by
  have := h j u hu
  rw [add_at rfl] at this ⊢
  rw [hB.cell (p := ⟨b, off + j, none⟩) hb]; exact this
theorem cvq_take {W : World} {b off : Nat} {vs : List Value} (h : CVQ W b off vs) (k : Nat) : ∀ j u, (vs.take k)[j]? = some u → W.cell? ((⟨b, off, none⟩ : Addr).add j) = some u := by
  intro j u hu
  rw [List.getElem?_take] at hu
  split at hu
  · exact h j u hu
  · cases hu
theorem cvq_drop {W : World} {b off : Nat} {vs : List Value} (h : CVQ W b off vs) (k : Nat) : ∀ j u, (vs.drop k)[j]? = some u → W.cell? ((⟨b, off + k, none⟩ : Addr).add j) = some u := by
  intro j u hu
  rw [List.getElem?_drop] at hu
  have := h _ u hu
  rw [add_at rfl] at this ⊢
  rw [Nat.add_assoc]; exact this
theorem CVQ.d4 {W : World} {b off : Nat} {l : List D4} (h : CVQ W b off (c4 l)) (hb : b < W.heap.size) : D4C W (some ⟨b, off, none⟩) l := by
  intro k hk
  obtain ⟨h0, h1, h2, h3⟩ := get_c4 l k hk
  have e0 := h _ _ h0
  have e1 := h _ _ h1
  have e2 := h _ _ h2
  have e3 := h _ _ h3
  rw [add_at rfl] at e0 e1 e2 e3
  exact ⟨b, off, rfl, hb, e0, by rw [Nat.add_assoc]; exact e1, by rw [Nat.add_assoc]; exact e2, by rw [Nat.add_assoc]; exact e3⟩
theorem c4_append (a b : List D4) : c4 (a ++ b) = c4 a ++ c4 b := by unfold c4; rw [List.flatMap_append]
theorem c4_take {l : List D4} {k : Nat} (hk : k ≤ l.length) : (c4 l).take (k * 4) = c4 (l.take k) := by
  conv => lhs; rw [← List.take_append_drop k l, c4_append]
  rw [List.take_append_of_le_length (by rw [length_c4, List.length_take]; omega), List.take_of_length_le (by rw [length_c4, List.length_take]; omega)]
theorem c4_drop {l : List D4} {k : Nat} (hk : k ≤ l.length) : (c4 l).drop (k * 4) = c4 (l.drop k) := by
  conv => lhs; rw [← List.take_append_drop k l, c4_append]
  rw [List.drop_append_of_le_length (by rw [length_c4, List.length_take]; omega), List.drop_of_length_le (by rw [length_c4, List.length_take]; omega), List.nil_append]
theorem own_emptyG {W : World} {N base size : Nat} {e : TypeId} (h : W.heap[N]? = some (.cells #[] e)) (hb : base ≤ N) : W.ownsRow base e size (.slice (some ⟨N, 0, none⟩) 0 0) 0 [] :=
  ⟨by simp, .inr ⟨N, 0, #[], rfl, hb, h, Nat.le_refl _, Nat.zero_le _, by simp, by simp⟩⟩
theorem fourAt {W : World} {g j : Nat} {x y z u : Int} {v : Value} (hu : (encQ (x, y, z, u))[j]? = some v) (h0 : W.cell? ⟨g, 0, none⟩ = some (.int .i64 x)) (h1 : W.cell? ⟨g, 1, none⟩ = some (.int .i64 y)) (h2 : W.cell? ⟨g, 2, none⟩ = some (.int .i64 z)) (h3 : W.cell? ⟨g, 3, none⟩ = some (.int .i64 u)) : W.cell? ⟨g, 0 + j, none⟩ = some v := by
  rw [Nat.zero_add]
  rcases j with _ | _ | _ | _ | j
  · simp [encQ] at hu; rw [← hu]; exact h0
  · simp [encQ] at hu; rw [← hu]; exact h1
  · simp [encQ] at hu; rw [← hu]; exact h2
  · simp [encQ] at hu; rw [← hu]; exact h3
  · simp [encQ] at hu
theorem fourNew (W : World) (T : TypeId) (x y z u : Int) : ∀ j v, (encQ (x, y, z, u))[j]? = some v → (W.alloc (.cells #[.int .i64 x, .int .i64 y, .int .i64 z, .int .i64 u] T)).cell? ((⟨W.heap.size, 0, none⟩ : Addr).add j) = some v := by
  intro j v hv
  rw [add_at rfl]
  exact fourAt hv (by simp [go_sem]) (by simp [go_sem]) (by simp [go_sem]) (by simp [go_sem])
theorem put_endQ {w3 : World} {base : Nat} {e : TypeId} {v3 : Value} {l : List D4} {n k : Nat} {g : D4} (hk : k ≤ n) (hl : l.length = n)
    (h : w3.ownsRow base e 4 v3 (0 + k + 1 + (n - k)) ([] ++ (c4 l).take (k * 4) ++ encQ g ++ (c4 l).drop (k * 4))) :
    ∃ b c', v3 = .slice (some ⟨b, 0, none⟩) (n + 1) c' ∧ CVQ w3 b 0 (c4 (l.take k ++ g :: l.drop k)) ∧ b < w3.heap.size ∧ n + 1 ≤ c' ∧ c' ≤ maxLen ∧ base ≤ b := by
  have e1 : 0 + k + 1 + (n - k) = n + 1 := by omega
  have e2 : [] ++ (c4 l).take (k * 4) ++ encQ g ++ (c4 l).drop (k * 4) = c4 (l.take k ++ g :: l.drop k) := by
    rw [c4_take (by omega), c4_drop (by omega), List.nil_append, c4_append, List.append_assoc]; rfl
  rw [e1, e2] at h
  have ho : Own base w3.heap.size w3 e 4 v3 (n + 1) (c4 (l.take k ++ g :: l.drop k)) := Own.of h
  obtain ⟨a, c, rfl, hm, hj⟩ := ho.form
  obtain ⟨b, rfl, hlo, -, hgs, -, -⟩ := hj 0 (by omega)
  obtain ⟨b2, c2, hv, hc1, hc2⟩ := own_someS h (by omega)
  cases hv
  refine ⟨b, c, rfl, fun j u hu => ?_, hgs, hc1, hc2, hlo⟩
  have hjl : j < (c4 (l.take k ++ g :: l.drop k)).length := by
    rcases Nat.lt_or_ge j (c4 (l.take k ++ g :: l.drop k)).length with h | h
    · exact h
    · rw [List.getElem?_eq_none h] at hu; cases hu
  have hle : (c4 (l.take k ++ g :: l.drop k)).length = (n + 1) * 4 := ho.size
  obtain ⟨g3, e3, -, -, -, hc, -⟩ := hj j (by omega)
  cases e3
  rw [add_at rfl, Nat.zero_add, hc]; exact hu
theorem box4Q {w wX : World} {T : TypeId} {a b c d : Value} {B : Nat} (h : Below B (w.alloc (.cells #[a, b, c, d] T)) wX) (hB : w.heap.size < B) : wX.cell? ⟨w.heap.size, 0, none⟩ = some a ∧ wX.cell? ⟨w.heap.size, 1, none⟩ = some b ∧ wX.cell? ⟨w.heap.size, 2, none⟩ = some c ∧ wX.cell? ⟨w.heap.size, 3, none⟩ = some d ∧ w.heap.size < wX.heap.size := by
  refine ⟨?_, ?_, ?_, ?_, ?_⟩
  · rw [h.cell (p := ⟨w.heap.size, 0, none⟩) hB]; simp [go_sem]
  · rw [h.cell (p := ⟨w.heap.size, 1, none⟩) hB]; simp [go_sem]
  · rw [h.cell (p := ⟨w.heap.size, 2, none⟩) hB]; simp [go_sem]
  · rw [h.cell (p := ⟨w.heap.size, 3, none⟩) hB]; simp [go_sem]
  · have := h.size; simp at this; omega
end Go.KD
namespace Go.Proofs.Ytldogbahbjompaa
open Go.RowKit Go.KD
attribute [local go_sem] later_cell later_frozen
set_option maxHeartbeats 8000000 in
theorem l8Put_c (b0 off0 cap n : Nat) (l : List D4) (x y z u : Int) (w : World) (hn : l.length = n) (hb0 : b0 < w.heap.size) (hV : CVQ w b0 off0 (c4 l)) (hcap : n ≤ cap) (hc63 : cap ≤ maxLen) (hn4 : n ≤ 4096) :
    Calls Try.prog 68 #[.slice (some ⟨b0, off0, none⟩) n cap, .agg #[.int .i64 x, .int .i64 y, .int .i64 z, .int .i64 u]] w fun e w' => ∃ b' off' c' n', e = .returned (.slice (some ⟨b', off', none⟩) n' c') ∧ (putG l (x, y, z, u)).length = n' ∧ n' ≤ c' ∧ c' ≤ maxLen ∧ CVQ w' b' off' (c4 (putG l (x, y, z, u))) ∧ b' < w'.heap.size ∧ (b' = b0 ∨ w.heap.size ≤ b') ∧ Below w.heap.size w w' := by
  obtain ⟨s0, si, sz0, sz1, sz2⟩ := info_parts infoA4
  obtain ⟨i0, ji, jz0, jz1, jz2⟩ := info_parts infoI
  have hc2 : cap ≤ 9223372036854775807 := by unfold maxLen at hc63; omega
  have HLN := Lib.hid hn
  have HCL : Hid ((c4 l).length = n * 4) := by show _ = _; rw [length_c4, hn]
  have HV := Lib.hid hV
  have HD : Hid (D4C w (some ⟨b0, off0, none⟩) l) := hV.d4 hb0
  clear hn hV
  go_enter Try.func68, Try.ntmps68
  go_wp2
  go_loopw [5] (fun c wr => ∃ k : Nat, k ≤ n ∧ c = .int .i64 k ∧ Hid (∀ j, j < k → lt4 l[j]! (x, y, z, u) = true) ∧ Hid (Below (w.heap.size + 1) (w.alloc (.cells #[.int .i64 x, .int .i64 y, .int .i64 z, .int .i64 u] 88)) wr)) (fun c _ => n - (intOf c).toNat)
  case atStart => exact ⟨0, Nat.zero_le _, rfl, fun j hj => absurd hj (Nat.not_lt_zero j), Below.refl _ _⟩
  case round =>
    obtain ⟨wo, rfl⟩ : ∃ wo : World, wo = wr := ⟨_, rfl⟩
    obtain ⟨k, hk, rfl, HJ, HBX⟩ := hrel
    obtain ⟨q0, q1, q2, q3, zb⟩ := box4Q HBX.out (by omega)
    have HBw : Hid (Below w.heap.size w wo) := ((Below.refl _ _).alloc (Nat.le_refl _) _).trans (HBX.out.mono (by omega))
    have hz0 := HBw.out.size
    have hbo : b0 < wo.heap.size := by omega
    have hkc : (k : Int) ≤ (cap : Int) := by omega
    have hkl : (k : Int) ≤ (n : Int) := by omega
    have hlc : (n : Int) ≤ (cap : Int) := by omega
    have hk0 : (0 : Int) ≤ (k : Int) := by omega
    by_cases hlt : k < n
    · have hkn : (k : Int) < (n : Int) := by omega
      obtain ⟨b, off, x1, y1, z1, u1, hbo', HY, hbs, e0, e1, e2, e3⟩ := (HD.out.later HBw.out).at k (by rw [HLN.out]; exact hlt)
      cases hbo'
      cases p1 : lt4 (x1, y1, z1, u1) (x, y, z, u)
      · have HL4 : Hid (k < n → lt4 l[k]! (x, y, z, u) = false) := fun _ => by rw [HY.out]; exact p1
        go_wp2_with fail
        refine wp_region_later (wo.heap.size) (by kernel_rfl) (by kernel_rfl) ?_
        repeat (first | go_big_quiet_skip | (go_big_quiet_want; go_big_quiet_op; (first | go_big_quiet_on | (apply Exists.intro; refine ⟨fun W => ?_, ?_⟩; (first | (go_at_call 98; exact Calls.later_of (by simp) (l8Before_c _ _ _ _ _ _ _ _ _))); go_big_quiet_on))))
        refine wpQuiet_nil ?_
        rintro w9 ⟨⟨w9', hb9⟩, h9⟩
        change w9 = w9' at h9
        subst h9
        have HBX9 : Hid (Below (w.heap.size + 1) (w.alloc (.cells #[.int .i64 x, .int .i64 y, .int .i64 z, .int .i64 u] 88)) w9) := HBX.out.trans (hb9.mono (by omega))
        clear hb9 q0 q1 q2 q3 e0 e1 e2 e3
        rw [p1]
        obtain ⟨q0, q1, q2, q3, zb9⟩ := box4Q HBX9.out (by omega)
        have HBw9 : Hid (Below w.heap.size w w9) := ((Below.refl _ _).alloc (Nat.le_refl _) _).trans (HBX9.out.mono (by omega))
        obtain ⟨b, off, x2, y2, z2, u2, hbo', HY2, hbs, e0, e1, e2, e3⟩ := (HD.out.later HBw9.out).at k (by rw [HLN.out]; exact hlt)
        cases hbo'
        obtain ⟨rfl, rfl, rfl, rfl⟩ : x2 = x1 ∧ y2 = y1 ∧ z2 = z1 ∧ u2 = u1 := by
          have h := HY2.out.symm.trans HY.out
          simpa using h
        clear HY2
        obtain ⟨cb, hcb⟩ : ∃ cb : Bool, cb = decide ((x2, y2, z2, u2) = (x, y, z, u)) := ⟨_, rfl⟩
        have he4 := fun (w : World) => run_eql4 (P := Try.prog) w Try.underlying88 ji Try.underlying3 (by kernel_rfl) x2 y2 z2 u2 x y z u
        rw [← hcb] at he4
        have HCB := Lib.hid hcb
        clear hcb
        go_wp2_with fail
        refine wp_region_later (w9.heap.size) (by kernel_rfl) (by kernel_rfl) ?_
        repeat (first | go_big_quiet_skip | (go_big_quiet_want; go_big_quiet_op; go_big_quiet_on))
        refine wpQuiet_nil ?_
        rintro w1 ⟨⟨w1', hb9⟩, h9⟩
        change w1 = w1' at h9
        subst h9
        have HBX1 : Hid (Below (w.heap.size + 1) (w.alloc (.cells #[.int .i64 x, .int .i64 y, .int .i64 z, .int .i64 u] 88)) w1) := HBX9.out.trans (hb9.mono (by omega))
        have HBw : Hid (Below w.heap.size w w1) := ((Below.refl _ _).alloc (Nat.le_refl _) _).trans (HBX1.out.mono (by omega))
        clear hb9
        cases hcc : cb
        · have HE : Hid (putG l (x, y, z, u) = l.take k ++ (x, y, z, u) :: l.drop k) := by
            show _ = _
            rw [putG_eq l _ k (by rw [HLN.out]; exact hk) HJ.out (fun _ => HL4.out hlt), if_neg]
            rintro ⟨-, h⟩
            rw [HY.out] at h
            have h5 := HCB.out
            rw [hcc] at h5
            exact absurd h (of_decide_eq_false h5.symm)
          rw [hcc] at he4
          clear hcc e0 e1 e2 e3 q0 q1 q2 q3
          obtain ⟨q0, q1, q2, q3, zb1⟩ := box4Q HBX1.out (by omega)
          have hb01 : b0 < w1.heap.size := by have := HBw.out.size; omega
          have HV1 : Hid (CVQ w1 b0 off0 (c4 l)) := HV.out.later hb0 HBw.out
          have hz2 := HBw.out.size
          clear he4
          go_upto_region 6 with fail
          by_cases hck : cap = k
          · omega
          · go_region_law (first
              | (refine step_append_below _ w1 w1.heap.size (by (repeat (first | exact Below.refl _ _ | apply Below.drew | apply below_drewN | (refine Below.setCell ?_ (by first | omega | (simp; done) | (simp; omega) | (dsimp only; omega)) _) | (refine Below.alloc ?_ (by first | omega | (simp; done) | (simp; omega) | (dsimp only; omega)) _)))) (by rfl) _ _ 35 (by rfl) 88 s0 (.agg #[.int .i64 0, .int .i64 0, .int .i64 0, .int .i64 0]) 4 32 Try.underlying35 si sz0 sz1 sz2 rfl (by decide) (.slice (some ⟨_, 0, none⟩) 0 0) 0 [] (by rfl) (own_emptyG (by first | exact heap1 w1 _ | exact heap2 w1 _ _ | exact heap3 w1 _ _) (by simp)) ⟨b0, off0, none⟩ k _ ((c4 l).take (k * 4)) (by rfl) (by rw [List.length_take, HCL.out]; omega) (cvq_take (HV1.out.later hb01 (by (repeat (first | exact Below.refl _ _ | apply Below.drew | apply below_drewN | (refine Below.setCell ?_ (by first | omega | (simp; done) | (simp; omega) | (dsimp only; omega)) _) | (refine Below.alloc ?_ (by first | omega | (simp; done) | (simp; omega) | (dsimp only; omega)) _))))) (k * 4)) (fun u hu => c4_oneT u (List.mem_of_mem_take hu)) (by unfold maxLen; omega) (by omega) (by simp; try omega) ?_; intro v1 wA ho1 hg1 hb1; have r0 := (hb1.cell (p := ⟨w.heap.size, 0, none⟩) zb1).trans q0; have r1 := (hb1.cell (p := ⟨w.heap.size, 1, none⟩) zb1).trans q1; have r2 := (hb1.cell (p := ⟨w.heap.size, 2, none⟩) zb1).trans q2; have r3 := (hb1.cell (p := ⟨w.heap.size, 3, none⟩) zb1).trans q3)
              | (refine step_append_below _ w1 w1.heap.size (hb1.alloc hb1.size _) (by rfl) _ _ 35 (by rfl) 88 s0 (.agg #[.int .i64 0, .int .i64 0, .int .i64 0, .int .i64 0]) 4 32 Try.underlying35 si sz0 sz1 sz2 rfl (by decide) _ _ _ (by rfl) (ho1.alloc _) ⟨_, 0, none⟩ 1 1 (encQ (x, y, z, u)) (by rfl) (by rfl) (fourNew _ _ x y z u) (fun t ht => c4_oneT (l := [(x, y, z, u)]) t (by simpa [c4, encQ] using ht)) (by unfold maxLen; omega) (by omega) (by have := hb1.size; simp; omega) ?_; intro v2 wB ho2 hg2 hb2)
              | (refine step_append_below _ w1 w1.heap.size hb1 (by rfl) _ _ 35 (by rfl) 88 s0 (.agg #[.int .i64 0, .int .i64 0, .int .i64 0, .int .i64 0]) 4 32 Try.underlying35 si sz0 sz1 sz2 rfl (by decide) _ _ _ (by rfl) ho1 ⟨_, 0, none⟩ 1 1 (encQ (x, y, z, u)) (by rfl) (by rfl) (by intro j u hu; rw [add_at rfl, hg1.cell_far ⟨_, _, none⟩ (by simp; try omega) (by simp [Value.ownBlock]; try omega)]; exact fourAt hu (by simp [go_sem]) (by simp [go_sem]) (by simp [go_sem]) (by simp [go_sem])) (fun t ht => c4_oneT (l := [(x, y, z, u)]) t (by simpa [c4, encQ] using ht)) (by unfold maxLen; omega) (by omega) hb1.size ?_; intro v2 wB ho2 hg2 hb2)
              | (refine step_append_below _ w1 w1.heap.size hb2 (by rfl) _ _ 35 (by rfl) 88 s0 (.agg #[.int .i64 0, .int .i64 0, .int .i64 0, .int .i64 0]) 4 32 Try.underlying35 si sz0 sz1 sz2 rfl (by decide) _ _ _ (by rfl) ho2 ⟨b0, off0 + k * 4, none⟩ (n - k) _ ((c4 l).drop (k * 4)) (by rfl) (by rw [List.length_drop, HCL.out]; omega) (cvq_drop (HV1.out.later hb01 hb2) (k * 4)) (fun u hu => c4_oneT u (List.mem_of_mem_drop hu)) (by unfold maxLen; omega) (by omega) hb2.size ?_; intro v3 wC ho3 hg3 hb3))
            all_goals
              obtain ⟨g3, c3, rfl, hi3, hs3, hr3, hm3, hlo3⟩ := put_endQ hk HLN.out ho3
              have HI := Lib.hid hi3; clear hi3
              clear ho3 ho2 ho1 hg1 hg2 hg3
              go_wp2
              go_ret
              exact ⟨g3, 0, c3, n + 1, rfl, by rw [HE.out]; simp [HLN.out] <;> omega, hr3, hm3, by rw [HE.out]; exact HI.out, hs3, .inr (by omega), HBw.out.trans (hb3.mono hz2)⟩

        · rw [hcc] at he4
          have HE : Hid (putG l (x, y, z, u) = l) := by
            show _ = _
            rw [putG_eq l _ k (by rw [HLN.out]; exact hk) HJ.out (fun _ => HL4.out hlt), if_pos]
            refine ⟨by rw [HLN.out]; exact hlt, ?_⟩
            rw [HY.out]
            have h5 := HCB.out
            rw [hcc] at h5
            exact of_decide_eq_true h5.symm
          clear hcc
          have HV1 : Hid (CVQ w1 b0 off0 (c4 l)) := HV.out.later hb0 HBw.out
          have hb01 : b0 < w1.heap.size := by have := HBw.out.size; omega
          go_wp2_with fail
          go_ret
          exact ⟨b0, off0, cap, n, rfl, by rw [HE.out]; exact HLN.out, hcap, hc63, by rw [HE.out]; exact HV1.out, hb01, .inl rfl, HBw.out⟩
      · have HJ' : Hid (∀ j, j < k + 1 → lt4 l[j]! (x, y, z, u) = true) := by
          intro j hj
          rcases Nat.lt_or_ge j k with h | h
          · exact HJ.out j h
          · obtain rfl : j = k := by omega
            rw [HY.out]; exact p1
        go_wp2_with fail
        refine wp_region_later (wo.heap.size) (by kernel_rfl) (by kernel_rfl) ?_
        repeat (first | go_big_quiet_skip | (go_big_quiet_want; go_big_quiet_op; (first | go_big_quiet_on | (apply Exists.intro; refine ⟨fun W => ?_, ?_⟩; (first | (go_at_call 98; exact Calls.later_of (by simp) (l8Before_c _ _ _ _ _ _ _ _ _))); go_big_quiet_on))))
        refine wpQuiet_nil ?_
        trace_state
        rintro w9 ⟨⟨w9', hb9⟩, h9⟩
        change w9 = w9' at h9
        subst h9
        have HBX9 : Hid (Below (w.heap.size + 1) (w.alloc (.cells #[.int .i64 x, .int .i64 y, .int .i64 z, .int .i64 u] 88)) w9) := HBX.out.trans (hb9.mono (by omega))
        clear hb9 q0 q1 q2 q3
        try rw [p1]
        go_wp2_with fail
        go_roundw
        case rel => exact ⟨k + 1, by omega, by go_num, HJ', HBX9⟩
        case measure => simp [intOf]; omega
    · obtain rfl : k = n := by omega
      have hd1 : decide ((k : Int) < (k : Int)) = false := by simp
      have hd2 : decide (k < k) = false := by simp
      go_wp2_with fail
      refine wp_region_later (wo.heap.size) (by kernel_rfl) (by kernel_rfl) ?_
      repeat (first | go_big_quiet_skip | (go_big_quiet_want; go_big_quiet_op; go_big_quiet_on))
      refine wpQuiet_nil ?_
      rintro w9 ⟨⟨w9', hb9⟩, h9⟩
      change w9 = w9' at h9
      subst h9
      have HBX9 : Hid (Below (w.heap.size + 1) (w.alloc (.cells #[.int .i64 x, .int .i64 y, .int .i64 z, .int .i64 u] 88)) w9) := HBX.out.trans (hb9.mono (by omega))
      clear hb9 q0 q1 q2 q3
      obtain ⟨q0, q1, q2, q3, zb9⟩ := box4Q HBX9.out (by omega)
      go_wp2_with fail
      refine wp_region_later (w9.heap.size) (by kernel_rfl) (by kernel_rfl) ?_
      repeat (first | go_big_quiet_skip | (go_big_quiet_want; go_big_quiet_op; go_big_quiet_on))
      refine wpQuiet_nil ?_
      rintro w1 ⟨⟨w1', hb9⟩, h9⟩
      change w1 = w1' at h9
      subst h9
      have HBX1 : Hid (Below (w.heap.size + 1) (w.alloc (.cells #[.int .i64 x, .int .i64 y, .int .i64 z, .int .i64 u] 88)) w1) := HBX9.out.trans (hb9.mono (by omega))
      have HBw : Hid (Below w.heap.size w w1) := ((Below.refl _ _).alloc (Nat.le_refl _) _).trans (HBX1.out.mono (by omega))
      clear hb9 q0 q1 q2 q3
      obtain ⟨q0, q1, q2, q3, zb1⟩ := box4Q HBX1.out (by omega)
      have hb01 : b0 < w1.heap.size := by have := HBw.out.size; omega
      have HV1 : Hid (CVQ w1 b0 off0 (c4 l)) := HV.out.later hb0 HBw.out
      have hz2 := HBw.out.size
      have HE : Hid (putG l (x, y, z, u) = l.take k ++ (x, y, z, u) :: l.drop k) := by
        show _ = _
        rw [putG_eq l _ k (by rw [HLN.out]; exact Nat.le_refl _) HJ.out (fun h => absurd h (by rw [HLN.out]; omega)), if_neg (fun h => absurd h.1 (by rw [HLN.out]; omega))]
      go_upto_region 6 with fail
      by_cases hck : cap = k
      · go_region_law (first
          | (refine step_append_below _ w1 w1.heap.size (by (repeat (first | exact Below.refl _ _ | apply Below.drew | apply below_drewN | (refine Below.setCell ?_ (by first | omega | (simp; done) | (simp; omega) | (dsimp only; omega)) _) | (refine Below.alloc ?_ (by first | omega | (simp; done) | (simp; omega) | (dsimp only; omega)) _)))) (by rfl) _ _ 35 (by rfl) 88 s0 (.agg #[.int .i64 0, .int .i64 0, .int .i64 0, .int .i64 0]) 4 32 Try.underlying35 si sz0 sz1 sz2 rfl (by decide) (.slice (some ⟨_, 0, none⟩) 0 0) 0 [] (by rfl) (own_emptyG (by first | exact heap1 w1 _ | exact heap2 w1 _ _ | exact heap3 w1 _ _) (by simp)) ⟨b0, off0, none⟩ k _ ((c4 l).take (k * 4)) (by rfl) (by rw [List.length_take, HCL.out]; omega) (cvq_take (HV1.out.later hb01 (by (repeat (first | exact Below.refl _ _ | apply Below.drew | apply below_drewN | (refine Below.setCell ?_ (by first | omega | (simp; done) | (simp; omega) | (dsimp only; omega)) _) | (refine Below.alloc ?_ (by first | omega | (simp; done) | (simp; omega) | (dsimp only; omega)) _))))) (k * 4)) (fun u hu => c4_oneT u (List.mem_of_mem_take hu)) (by unfold maxLen; omega) (by omega) (by simp; try omega) ?_; intro v1 wA ho1 hg1 hb1; have r0 := (hb1.cell (p := ⟨w.heap.size, 0, none⟩) zb1).trans q0; have r1 := (hb1.cell (p := ⟨w.heap.size, 1, none⟩) zb1).trans q1; have r2 := (hb1.cell (p := ⟨w.heap.size, 2, none⟩) zb1).trans q2; have r3 := (hb1.cell (p := ⟨w.heap.size, 3, none⟩) zb1).trans q3)
          | (refine step_append_below _ w1 w1.heap.size (hb1.alloc hb1.size _) (by rfl) _ _ 35 (by rfl) 88 s0 (.agg #[.int .i64 0, .int .i64 0, .int .i64 0, .int .i64 0]) 4 32 Try.underlying35 si sz0 sz1 sz2 rfl (by decide) _ _ _ (by rfl) (ho1.alloc _) ⟨_, 0, none⟩ 1 1 (encQ (x, y, z, u)) (by rfl) (by rfl) (fourNew _ _ x y z u) (fun t ht => c4_oneT (l := [(x, y, z, u)]) t (by simpa [c4, encQ] using ht)) (by unfold maxLen; omega) (by omega) (by have := hb1.size; simp; omega) ?_; intro v2 wB ho2 hg2 hb2)
          | (refine step_append_below _ w1 w1.heap.size hb1 (by rfl) _ _ 35 (by rfl) 88 s0 (.agg #[.int .i64 0, .int .i64 0, .int .i64 0, .int .i64 0]) 4 32 Try.underlying35 si sz0 sz1 sz2 rfl (by decide) _ _ _ (by rfl) ho1 ⟨_, 0, none⟩ 1 1 (encQ (x, y, z, u)) (by rfl) (by rfl) (by intro j u hu; rw [add_at rfl, hg1.cell_far ⟨_, _, none⟩ (by simp; try omega) (by simp [Value.ownBlock]; try omega)]; exact fourAt hu (by simp [go_sem]) (by simp [go_sem]) (by simp [go_sem]) (by simp [go_sem])) (fun t ht => c4_oneT (l := [(x, y, z, u)]) t (by simpa [c4, encQ] using ht)) (by unfold maxLen; omega) (by omega) hb1.size ?_; intro v2 wB ho2 hg2 hb2)
          | (refine step_append_below _ w1 w1.heap.size hb2 (by rfl) _ _ 35 (by rfl) 88 s0 (.agg #[.int .i64 0, .int .i64 0, .int .i64 0, .int .i64 0]) 4 32 Try.underlying35 si sz0 sz1 sz2 rfl (by decide) _ _ _ (by rfl) ho2 ⟨b0, off0, none⟩ 0 _ ((c4 l).drop (k * 4)) (by rfl) (by rw [List.length_drop, HCL.out]; omega) (by rw [List.drop_of_length_le (by rw [HCL.out]; omega)]; intro j u hu; simp at hu) (fun u hu => c4_oneT u (List.mem_of_mem_drop hu)) (by unfold maxLen; omega) (by omega) hb2.size ?_; intro v3 wC ho3 hg3 hb3))
        all_goals
          obtain ⟨g3, c3, rfl, hi3, hs3, hr3, hm3, hlo3⟩ := put_endQ (Nat.le_refl _) HLN.out (by rw [Nat.sub_self]; exact ho3)
          have HI := Lib.hid hi3; clear hi3
          clear ho3 ho2 ho1 hg1 hg2 hg3
          go_wp2
          go_ret
          exact ⟨g3, 0, c3, k + 1, rfl, by rw [HE.out]; simp [HLN.out] <;> omega, hr3, hm3, by rw [HE.out]; exact HI.out, hs3, .inr (by omega), HBw.out.trans (hb3.mono hz2)⟩

      · go_region_law (first
          | (refine step_append_below _ w1 w1.heap.size (by (repeat (first | exact Below.refl _ _ | apply Below.drew | apply below_drewN | (refine Below.setCell ?_ (by first | omega | (simp; done) | (simp; omega) | (dsimp only; omega)) _) | (refine Below.alloc ?_ (by first | omega | (simp; done) | (simp; omega) | (dsimp only; omega)) _)))) (by rfl) _ _ 35 (by rfl) 88 s0 (.agg #[.int .i64 0, .int .i64 0, .int .i64 0, .int .i64 0]) 4 32 Try.underlying35 si sz0 sz1 sz2 rfl (by decide) (.slice (some ⟨_, 0, none⟩) 0 0) 0 [] (by rfl) (own_emptyG (by first | exact heap1 w1 _ | exact heap2 w1 _ _ | exact heap3 w1 _ _) (by simp)) ⟨b0, off0, none⟩ k _ ((c4 l).take (k * 4)) (by rfl) (by rw [List.length_take, HCL.out]; omega) (cvq_take (HV1.out.later hb01 (by (repeat (first | exact Below.refl _ _ | apply Below.drew | apply below_drewN | (refine Below.setCell ?_ (by first | omega | (simp; done) | (simp; omega) | (dsimp only; omega)) _) | (refine Below.alloc ?_ (by first | omega | (simp; done) | (simp; omega) | (dsimp only; omega)) _))))) (k * 4)) (fun u hu => c4_oneT u (List.mem_of_mem_take hu)) (by unfold maxLen; omega) (by omega) (by simp; try omega) ?_; intro v1 wA ho1 hg1 hb1; have r0 := (hb1.cell (p := ⟨w.heap.size, 0, none⟩) zb1).trans q0; have r1 := (hb1.cell (p := ⟨w.heap.size, 1, none⟩) zb1).trans q1; have r2 := (hb1.cell (p := ⟨w.heap.size, 2, none⟩) zb1).trans q2; have r3 := (hb1.cell (p := ⟨w.heap.size, 3, none⟩) zb1).trans q3)
          | (refine step_append_below _ w1 w1.heap.size (hb1.alloc hb1.size _) (by rfl) _ _ 35 (by rfl) 88 s0 (.agg #[.int .i64 0, .int .i64 0, .int .i64 0, .int .i64 0]) 4 32 Try.underlying35 si sz0 sz1 sz2 rfl (by decide) _ _ _ (by rfl) (ho1.alloc _) ⟨_, 0, none⟩ 1 1 (encQ (x, y, z, u)) (by rfl) (by rfl) (fourNew _ _ x y z u) (fun t ht => c4_oneT (l := [(x, y, z, u)]) t (by simpa [c4, encQ] using ht)) (by unfold maxLen; omega) (by omega) (by have := hb1.size; simp; omega) ?_; intro v2 wB ho2 hg2 hb2)
          | (refine step_append_below _ w1 w1.heap.size hb1 (by rfl) _ _ 35 (by rfl) 88 s0 (.agg #[.int .i64 0, .int .i64 0, .int .i64 0, .int .i64 0]) 4 32 Try.underlying35 si sz0 sz1 sz2 rfl (by decide) _ _ _ (by rfl) ho1 ⟨_, 0, none⟩ 1 1 (encQ (x, y, z, u)) (by rfl) (by rfl) (by intro j u hu; rw [add_at rfl, hg1.cell_far ⟨_, _, none⟩ (by simp; try omega) (by simp [Value.ownBlock]; try omega)]; exact fourAt hu (by simp [go_sem]) (by simp [go_sem]) (by simp [go_sem]) (by simp [go_sem])) (fun t ht => c4_oneT (l := [(x, y, z, u)]) t (by simpa [c4, encQ] using ht)) (by unfold maxLen; omega) (by omega) hb1.size ?_; intro v2 wB ho2 hg2 hb2)
          | (refine step_append_below _ w1 w1.heap.size hb2 (by rfl) _ _ 35 (by rfl) 88 s0 (.agg #[.int .i64 0, .int .i64 0, .int .i64 0, .int .i64 0]) 4 32 Try.underlying35 si sz0 sz1 sz2 rfl (by decide) _ _ _ (by rfl) ho2 ⟨b0, off0 + k * 4, none⟩ 0 _ ((c4 l).drop (k * 4)) (by rfl) (by rw [List.length_drop, HCL.out]; omega) (cvq_drop (HV1.out.later hb01 hb2) (k * 4)) (fun u hu => c4_oneT u (List.mem_of_mem_drop hu)) (by unfold maxLen; omega) (by omega) hb2.size ?_; intro v3 wC ho3 hg3 hb3))
        all_goals
          obtain ⟨g3, c3, rfl, hi3, hs3, hr3, hm3, hlo3⟩ := put_endQ (Nat.le_refl _) HLN.out (by rw [Nat.sub_self]; exact ho3)
          have HI := Lib.hid hi3; clear hi3
          clear ho3 ho2 ho1 hg1 hg2 hg3
          go_wp2
          go_ret
          exact ⟨g3, 0, c3, k + 1, rfl, by rw [HE.out]; simp [HLN.out] <;> omega, hr3, hm3, by rw [HE.out]; exact HI.out, hs3, .inr (by omega), HBw.out.trans (hb3.mono hz2)⟩
end Go.Proofs.Ytldogbahbjompaa
