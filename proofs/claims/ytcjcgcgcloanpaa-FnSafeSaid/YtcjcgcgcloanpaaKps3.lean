/- spec.l2Put: what it gives is owned. Printed by dev/mk_putd.py. Mazes that a draw makes: plain words; a door is put. The draw of mazes. Printed by dev/mk_mdraw.py. Contracts of the locks of a maze. -/
import Derived.Test.YtcjcgcgcloanpaaKps1
import Derived.Test.YtcjcgcgcloanpaaKps2
import Derived.Deep.DeepCutAuto
import Derived.ChangeKeysEq
import Derived.StillTailTactics
import Derived.Test.YtcjcgcgcloanpaaKps0
import Derived.Deep.RegionHeld3
set_option linter.unusedVariables false
set_option linter.unusedSimpArgs false
namespace Go
open Go.Op
theorem run_eql3 {P : Program} (w : World) {t e : TypeId} {i : TypeInfo} (hu : P.underlying t = some (.array 3 e)) (hi : P.info? e = some i) (he : P.underlying e = some (.int .i64)) (hc : P.cellsOf e = 1) (x y z x' y' z' : Int) :
    (binOp .eql t (.agg #[.int .i64 x, .int .i64 y, .int .i64 z]) (.agg #[.int .i64 x', .int .i64 y', .int .i64 z'])).run P w = .ok (.bool (decide ((x, y, z) = (x', y', z')))) w := by
  have h1 := fun (xs ys : Array Value) => run_equalIn_array (P := P) w 9999 (t := t) xs ys hu hi
  have hr : List.range 3 = [0, 1, 2] := by decide
  simp only [binOp]
  simp only [Op.equal, Op.maxDepth, Sem.run_bind, h1, hc, hr]
  simp only [Op.eqItems, Sem.run_bind]
  simp [part, isAgg, run_underlying he, run_equalIn_int w _ e .i64 .i64 _ _ he]
  by_cases a : x = x' <;> by_cases b : y = y' <;> by_cases c : z = z' <;> simp [a, b, c]
end Go
namespace Go.KD
open Go.RowKit
def encT (x : D3) : List Value := [.int .i64 x.1, .int .i64 x.2.1, .int .i64 x.2.2]
theorem CVQ.d3 {W : World} {b off : Nat} {l : List D3} (h : CVQ W b off (c3 l)) (hb : b < W.heap.size) : D3C W (some ⟨b, off, none⟩) l := by
  intro k hk
  obtain ⟨h0, h1, h2⟩ := get_c3 l k hk
  have e0 := h _ _ h0
  have e1 := h _ _ h1
  have e2 := h _ _ h2
  rw [add_at rfl] at e0 e1 e2
  exact ⟨b, off, rfl, hb, e0, by rw [Nat.add_assoc]; exact e1, by rw [Nat.add_assoc]; exact e2⟩
theorem c3_append (a b : List D3) : c3 (a ++ b) = c3 a ++ c3 b := by unfold c3; rw [List.flatMap_append]
theorem c3_take {l : List D3} {k : Nat} (hk : k ≤ l.length) : (c3 l).take (k * 3) = c3 (l.take k) := by
  conv => lhs; rw [← List.take_append_drop k l, c3_append]
  rw [List.take_append_of_le_length (by rw [length_c3, List.length_take]; omega), List.take_of_length_le (by rw [length_c3, List.length_take]; omega)]
theorem c3_drop {l : List D3} {k : Nat} (hk : k ≤ l.length) : (c3 l).drop (k * 3) = c3 (l.drop k) := by
  conv => lhs; rw [← List.take_append_drop k l, c3_append]
  rw [List.drop_append_of_le_length (by rw [length_c3, List.length_take]; omega), List.drop_of_length_le (by rw [length_c3, List.length_take]; omega), List.nil_append]
theorem threeAt {W : World} {g j : Nat} {x y z : Int} {v : Value} (hu : (encT (x, y, z))[j]? = some v) (h0 : W.cell? ⟨g, 0, none⟩ = some (.int .i64 x)) (h1 : W.cell? ⟨g, 1, none⟩ = some (.int .i64 y)) (h2 : W.cell? ⟨g, 2, none⟩ = some (.int .i64 z)) : W.cell? ⟨g, 0 + j, none⟩ = some v := by
  rw [Nat.zero_add]
  rcases j with _ | _ | _ | j
  · simp [encT] at hu; rw [← hu]; exact h0
  · simp [encT] at hu; rw [← hu]; exact h1
  · simp [encT] at hu; rw [← hu]; exact h2
  · simp [encT] at hu
theorem threeNew (W : World) (T : TypeId) (x y z : Int) : ∀ j v, (encT (x, y, z))[j]? = some v → (W.alloc (.cells #[.int .i64 x, .int .i64 y, .int .i64 z] T)).cell? ((⟨W.heap.size, 0, none⟩ : Addr).add j) = some v := by
  intro j v hv
  rw [add_at rfl]
  exact threeAt hv (by simp [go_sem]) (by simp [go_sem]) (by simp [go_sem])
theorem c3_oneT {l : List D3} : ∀ u ∈ c3 l, u.oneCell' = true := by
  intro u hu
  simp only [c3, List.mem_flatMap] at hu
  obtain ⟨d, -, h⟩ := hu
  simp at h
  rcases h with rfl | rfl | rfl <;> rfl
theorem box3Q {w wX : World} {T : TypeId} {a b c : Value} {B : Nat} (h : Below B (w.alloc (.cells #[a, b, c] T)) wX) (hB : w.heap.size < B) : wX.cell? ⟨w.heap.size, 0, none⟩ = some a ∧ wX.cell? ⟨w.heap.size, 1, none⟩ = some b ∧ wX.cell? ⟨w.heap.size, 2, none⟩ = some c ∧ w.heap.size < wX.heap.size := by
  refine ⟨?_, ?_, ?_, ?_⟩
  · rw [h.cell (p := ⟨w.heap.size, 0, none⟩) hB]; simp [go_sem]
  · rw [h.cell (p := ⟨w.heap.size, 1, none⟩) hB]; simp [go_sem]
  · rw [h.cell (p := ⟨w.heap.size, 2, none⟩) hB]; simp [go_sem]
  · have := h.size; simp at this; omega
theorem put_endT {w3 : World} {base base' : Nat} {e : TypeId} {v3 : Value} {l : List D3} {n k : Nat} {g : D3} (hb : base' ≤ base) (hk : k ≤ n) (hl : l.length = n)
    (h : w3.ownsRow base e 3 v3 (0 + k + 1 + (n - k)) ([] ++ (c3 l).take (k * 3) ++ encT g ++ (c3 l).drop (k * 3))) :
    ∃ g' c', v3 = .slice (some ⟨g', 0, none⟩) (n + 1) c' ∧ w3.ownsRow base' e 3 (.slice (some ⟨g', 0, none⟩) (n + 1) c') (n + 1) (c3 (l.take k ++ g :: l.drop k)) ∧ base ≤ g' := by
  have e1 : 0 + k + 1 + (n - k) = n + 1 := by omega
  have e2 : [] ++ (c3 l).take (k * 3) ++ encT g ++ (c3 l).drop (k * 3) = c3 (l.take k ++ g :: l.drop k) := by
    rw [c3_take (by omega), c3_drop (by omega), List.nil_append, c3_append, List.append_assoc]; rfl
  rw [e1, e2] at h
  obtain ⟨b2, c2, rfl, hc1, hc2⟩ := own_someS h (by omega)
  exact ⟨b2, c2, rfl, (Own.mono (Own.of h) hb (Nat.le_refl _)).row, own_block_lo h rfl⟩
end Go.KD
namespace Go.Proofs.Ytcjcgcgcloanpaa
open Go.RowKit Go.KD
attribute [local go_sem] later_cell later_frozen
theorem infoA3D : (Try.prog.info? 39).map (fun i => (i.zero, i.size, i.bytes)) = some (some (.agg #[.int .i64 0, .int .i64 0, .int .i64 0]), 3, 24) := by kernel_rfl
theorem l1LeastX_c (a b x : Int) (hx : x = min a b) (w : World) : Calls Try.prog 179 #[.int .i64 a, .int .i64 b] w fun e w' => e = .returned (.int .i64 x) ∧ w = w' := by
  subst hx
  go_enter Try.func179, Try.ntmps179
  go_wp2
  all_goals (go_ret; exact ⟨ret_int (by omega), rfl⟩)
theorem l1MostX_c (a b x : Int) (hx : x = max a b) (w : World) : Calls Try.prog 172 #[.int .i64 a, .int .i64 b] w fun e w' => e = .returned (.int .i64 x) ∧ w = w' := by
  subst hx
  go_enter Try.func172, Try.ntmps172
  go_wp2
  all_goals (go_ret; exact ⟨ret_int (by omega), rfl⟩)
set_option maxHeartbeats 8000000 in
theorem l2PutO_c (base b0 off0 cap n : Nat) (hoff : off0 = 0) (l : List D3) (xa xb z : Int) (w : World) (hO : w.ownsRow base 39 3 (.slice (some ⟨b0, off0, none⟩) n cap) n (c3 l)) (hbw : base ≤ w.heap.size) (hn : l.length = n) (hb0 : b0 < w.heap.size) (hV : CVQ w b0 off0 (c3 l)) (hcap : n ≤ cap) (hc63 : cap ≤ maxLen) (hn4 : n ≤ 4096) :
    Calls Try.prog 146 #[.slice (some ⟨b0, off0, none⟩) n cap, .int .i64 xa, .int .i64 xb, .int .i64 z] w fun e w' => ∃ l' : List D3, ∃ g' c', e = .returned (.slice (some ⟨g', 0, none⟩) l'.length c') ∧ l'.length ≤ n + 1 ∧ w'.ownsRow base 39 3 (.slice (some ⟨g', 0, none⟩) l'.length c') l'.length (c3 l') ∧ (g' = b0 ∨ w.heap.size ≤ g') ∧ Below w.heap.size w w' := by
  have HOW := Lib.hid hO
  have HOFF := Lib.hid hoff
  clear hO hoff
  obtain ⟨s0, si, sz0, sz1, sz2⟩ := info_parts infoA3D
  obtain ⟨i0, ji, jz0, jz1, jz2⟩ := info_parts infoI
  have hc2 : cap ≤ 9223372036854775807 := by unfold maxLen at hc63; omega
  have HLN := Lib.hid hn
  have HCL : Hid ((c3 l).length = n * 3) := by show _ = _; rw [length_c3, hn]
  have HV := Lib.hid hV
  have HD : Hid (D3C w (some ⟨b0, off0, none⟩) l) := hV.d3 hb0
  clear hn hV
  obtain ⟨x, hx⟩ : ∃ x, x = min xa xb := ⟨_, rfl⟩
  obtain ⟨y, hy⟩ : ∃ y, y = max xa xb := ⟨_, rfl⟩
  have HXX := Lib.hid hx
  have HYY := Lib.hid hy
  clear hx hy
  go_enter Try.func146, Try.ntmps146
  go_wp2_with (first | (go_at_call 179; (with_reducible refine (l1LeastX_c _ _ x HXX.out _).mono ?_); rintro e w2 ⟨rfl, rfl⟩) | (go_at_call 172; (with_reducible refine (l1MostX_c _ _ y HYY.out _).mono ?_); rintro e w2 ⟨rfl, rfl⟩))
  go_loopw [10] (fun c wr => ∃ k : Nat, k ≤ n ∧ c = .int .i64 k ∧ Hid (∀ j, j < k → lt3 l[j]! (x, y, z) = true) ∧ Hid (Below (w.heap.size + 1) (w.alloc (.cells #[.int .i64 x, .int .i64 y, .int .i64 z] 39)) wr)) (fun c _ => n - (intOf c).toNat)
  case atStart => exact ⟨0, Nat.zero_le _, rfl, fun j hj => absurd hj (Nat.not_lt_zero j), Below.refl _ _⟩
  case round =>
    obtain ⟨wo, rfl⟩ : ∃ wo : World, wo = wr := ⟨_, rfl⟩
    obtain ⟨k, hk, rfl, HJ, HBX⟩ := hrel
    obtain ⟨q0, q1, q2, zb⟩ := box3Q HBX.out (by omega)
    have HBw : Hid (Below w.heap.size w wo) := ((Below.refl _ _).alloc (Nat.le_refl _) _).trans (HBX.out.mono (by omega))
    have hz0 := HBw.out.size
    have hbo : b0 < wo.heap.size := by omega
    have hkc : (k : Int) ≤ (cap : Int) := by omega
    have hkl : (k : Int) ≤ (n : Int) := by omega
    have hlc : (n : Int) ≤ (cap : Int) := by omega
    have hk0 : (0 : Int) ≤ (k : Int) := by omega
    by_cases hlt : k < n
    · have hkn : (k : Int) < (n : Int) := by omega
      obtain ⟨b, off, x1, y1, z1, hbo', HY, hbs, e0, e1, e2⟩ := (HD.out.later HBw.out).at k (by rw [HLN.out]; exact hlt)
      cases hbo'
      cases p1 : lt3 (x1, y1, z1) (x, y, z)
      · have HL4 : Hid (k < n → lt3 l[k]! (x, y, z) = false) := fun _ => by rw [HY.out]; exact p1
        go_wp2_with fail
        refine wp_region_later (wo.heap.size) (by kernel_rfl) (by kernel_rfl) ?_
        repeat (first | go_big_quiet_skip | (go_big_quiet_want; go_big_quiet_op; (first | go_big_quiet_on | (apply Exists.intro; refine ⟨fun W => ?_, ?_⟩; (first | (go_at_call 168; exact Calls.later_of (by simp) (l2Before_c _ _ _ _ _ _ _))); go_big_quiet_on))))
        refine wpQuiet_nil ?_
        rintro w9 ⟨⟨w9', hb9⟩, h9⟩
        change w9 = w9' at h9
        subst h9
        have HBX9 : Hid (Below (w.heap.size + 1) (w.alloc (.cells #[.int .i64 x, .int .i64 y, .int .i64 z] 39)) w9) := HBX.out.trans (hb9.mono (by omega))
        clear hb9 q0 q1 q2 e0 e1 e2
        rw [p1]
        obtain ⟨q0, q1, q2, zb9⟩ := box3Q HBX9.out (by omega)
        have HBw9 : Hid (Below w.heap.size w w9) := ((Below.refl _ _).alloc (Nat.le_refl _) _).trans (HBX9.out.mono (by omega))
        obtain ⟨b, off, x2, y2, z2, hbo', HY2, hbs, e0, e1, e2⟩ := (HD.out.later HBw9.out).at k (by rw [HLN.out]; exact hlt)
        cases hbo'
        obtain ⟨rfl, rfl, rfl⟩ : x2 = x1 ∧ y2 = y1 ∧ z2 = z1 := by
          have h := HY2.out.symm.trans HY.out
          simpa using h
        clear HY2
        obtain ⟨cb, hcb⟩ : ∃ cb : Bool, cb = decide ((x2, y2, z2) = (x, y, z)) := ⟨_, rfl⟩
        have he4 := fun (w : World) => run_eql3 (P := Try.prog) w Try.underlying39 ji Try.underlying3 (by kernel_rfl) x2 y2 z2 x y z
        rw [← hcb] at he4
        have HCB := Lib.hid hcb
        clear hcb
        go_wp2_with fail
        refine wp_region_later (w9.heap.size) (by kernel_rfl) (by kernel_rfl) ?_
        repeat (first | go_big_quiet_skip | (go_big_quiet_want; go_big_quiet_op; go_big_quiet_on))
        refine wpQuiet_nil ?_
        rintro w1 ⟨⟨w1', hb9⟩, h9⟩
        change w1 = w1' at h9
        subst h9
        have HBX1 : Hid (Below (w.heap.size + 1) (w.alloc (.cells #[.int .i64 x, .int .i64 y, .int .i64 z] 39)) w1) := HBX9.out.trans (hb9.mono (by omega))
        have HBw : Hid (Below w.heap.size w w1) := ((Below.refl _ _).alloc (Nat.le_refl _) _).trans (HBX1.out.mono (by omega))
        clear hb9
        cases hcc : cb
        · skip
          rw [hcc] at he4
          clear hcc e0 e1 e2 q0 q1 q2
          obtain ⟨q0, q1, q2, zb1⟩ := box3Q HBX1.out (by omega)
          have hb01 : b0 < w1.heap.size := by have := HBw.out.size; omega
          have HV1 : Hid (CVQ w1 b0 off0 (c3 l)) := HV.out.later hb0 HBw.out
          have hz2 := HBw.out.size
          clear he4
          go_upto_region 7 with fail
          by_cases hck : cap = k
          · omega
          · go_region_law (first
              | (refine step_append_below _ w1 w1.heap.size (by (repeat (first | exact Below.refl _ _ | apply Below.drew | apply below_drewN | (refine Below.setCell ?_ (by first | omega | (simp; done) | (simp; omega) | (dsimp only; omega)) _) | (refine Below.alloc ?_ (by first | omega | (simp; done) | (simp; omega) | (dsimp only; omega)) _)))) (by rfl) _ _ 24 (by rfl) 39 s0 (.agg #[.int .i64 0, .int .i64 0, .int .i64 0]) 3 24 Try.underlying24 si sz0 sz1 sz2 rfl (by decide) (.slice (some ⟨_, 0, none⟩) 0 0) 0 [] (by rfl) (own_emptyG (by first | exact heap1 w1 _ | exact heap2 w1 _ _ | exact heap3 w1 _ _) (by simp)) ⟨b0, off0, none⟩ k _ ((c3 l).take (k * 3)) (by rfl) (by rw [List.length_take, HCL.out]; omega) (cvq_take (HV1.out.later hb01 (by (repeat (first | exact Below.refl _ _ | apply Below.drew | apply below_drewN | (refine Below.setCell ?_ (by first | omega | (simp; done) | (simp; omega) | (dsimp only; omega)) _) | (refine Below.alloc ?_ (by first | omega | (simp; done) | (simp; omega) | (dsimp only; omega)) _))))) (k * 3)) (fun u hu => c3_oneT u (List.mem_of_mem_take hu)) (by unfold maxLen; omega) (by omega) (by simp; try omega) ?_; intro v1 wA ho1 hg1 hb1; have r0 := (hb1.cell (p := ⟨w.heap.size, 0, none⟩) zb1).trans q0; have r1 := (hb1.cell (p := ⟨w.heap.size, 1, none⟩) zb1).trans q1; have r2 := (hb1.cell (p := ⟨w.heap.size, 2, none⟩) zb1).trans q2)
              | (refine step_append_below _ w1 w1.heap.size (hb1.alloc hb1.size _) (by rfl) _ _ 24 (by rfl) 39 s0 (.agg #[.int .i64 0, .int .i64 0, .int .i64 0]) 3 24 Try.underlying24 si sz0 sz1 sz2 rfl (by decide) _ _ _ (by rfl) (ho1.alloc _) ⟨_, 0, none⟩ 1 1 (encT (x, y, z)) (by rfl) (by rfl) (threeNew _ _ x y z) (fun t ht => c3_oneT (l := [(x, y, z)]) t (by simpa [c3, encT] using ht)) (by unfold maxLen; omega) (by omega) (by have := hb1.size; simp; omega) ?_; intro v2 wB ho2 hg2 hb2)
              | (refine step_append_below _ w1 w1.heap.size hb1 (by rfl) _ _ 24 (by rfl) 39 s0 (.agg #[.int .i64 0, .int .i64 0, .int .i64 0]) 3 24 Try.underlying24 si sz0 sz1 sz2 rfl (by decide) _ _ _ (by rfl) ho1 ⟨_, 0, none⟩ 1 1 (encT (x, y, z)) (by rfl) (by rfl) (by intro j u hu; rw [add_at rfl, hg1.cell_far ⟨_, _, none⟩ (by simp; try omega) (by simp [Value.ownBlock]; try omega)]; exact threeAt hu (by simp [go_sem]) (by simp [go_sem]) (by simp [go_sem])) (fun t ht => c3_oneT (l := [(x, y, z)]) t (by simpa [c3, encT] using ht)) (by unfold maxLen; omega) (by omega) hb1.size ?_; intro v2 wB ho2 hg2 hb2)
              | (refine step_append_below _ w1 w1.heap.size hb2 (by rfl) _ _ 24 (by rfl) 39 s0 (.agg #[.int .i64 0, .int .i64 0, .int .i64 0]) 3 24 Try.underlying24 si sz0 sz1 sz2 rfl (by decide) _ _ _ (by rfl) ho2 ⟨b0, off0 + k * 3, none⟩ (n - k) _ ((c3 l).drop (k * 3)) (by rfl) (by rw [List.length_drop, HCL.out]; omega) (cvq_drop (HV1.out.later hb01 hb2) (k * 3)) (fun u hu => c3_oneT u (List.mem_of_mem_drop hu)) (by unfold maxLen; omega) (by omega) hb2.size ?_; intro v3 wC ho3 hg3 hb3))
            all_goals
              obtain ⟨g3, cq3, rfl, hi3, hlo3⟩ := put_endT (Nat.le_trans hbw (by omega)) hk HLN.out ho3
              have HI := Lib.hid hi3; clear hi3
              clear ho3 ho2 ho1 hg1 hg2 hg3
              go_wp2
              go_ret
              have hlN : (l.take k ++ (x, y, z) :: l.drop k).length = n + 1 := by simp [HLN.out] <;> omega
              exact ⟨l.take k ++ (x, y, z) :: l.drop k, g3, cq3, by rw [hlN]; rfl, by omega, by rw [hlN]; exact HI.out, .inr (by omega), HBw.out.trans (hb3.mono hz2)⟩

        · rw [hcc] at he4
          clear hcc
          have HV1 : Hid (CVQ w1 b0 off0 (c3 l)) := HV.out.later hb0 HBw.out
          have hb01 : b0 < w1.heap.size := by have := HBw.out.size; omega
          go_wp2_with fail
          go_ret
          exact ⟨l, b0, cap, (by have := HOFF.out; subst this; rw [HLN.out]; rfl), by rw [HLN.out]; omega, by rw [HLN.out]; have := HOFF.out; subst this; exact own_belowW' HOW.out HBw.out, .inl rfl, HBw.out⟩
      · have HJ' : Hid (∀ j, j < k + 1 → lt3 l[j]! (x, y, z) = true) := by
          intro j hj
          rcases Nat.lt_or_ge j k with h | h
          · exact HJ.out j h
          · obtain rfl : j = k := by omega
            rw [HY.out]; exact p1
        go_wp2_with fail
        refine wp_region_later (wo.heap.size) (by kernel_rfl) (by kernel_rfl) ?_
        repeat (first | go_big_quiet_skip | (go_big_quiet_want; go_big_quiet_op; (first | go_big_quiet_on | (apply Exists.intro; refine ⟨fun W => ?_, ?_⟩; (first | (go_at_call 168; exact Calls.later_of (by simp) (l2Before_c _ _ _ _ _ _ _))); go_big_quiet_on))))
        refine wpQuiet_nil ?_
        rintro w9 ⟨⟨w9', hb9⟩, h9⟩
        change w9 = w9' at h9
        subst h9
        have HBX9 : Hid (Below (w.heap.size + 1) (w.alloc (.cells #[.int .i64 x, .int .i64 y, .int .i64 z] 39)) w9) := HBX.out.trans (hb9.mono (by omega))
        clear hb9 q0 q1 q2
        try rw [p1]
        go_wp2_with fail
        go_roundw
        case rel => exact ⟨k + 1, by omega, by go_num, HJ', HBX9⟩
        case measure => simp [intOf]; omega
    · obtain rfl : k = n := by omega
      have hd1 : decide ((k : Int) < (k : Int)) = false := by simp
      have hd2 : decide (k < k) = false := by simp
      go_wp2_with fail
      refine wp_region_later (wo.heap.size) (by kernel_rfl) (by kernel_rfl) ?_
      repeat (first | go_big_quiet_skip | (go_big_quiet_want; go_big_quiet_op; go_big_quiet_on))
      refine wpQuiet_nil ?_
      rintro w9 ⟨⟨w9', hb9⟩, h9⟩
      change w9 = w9' at h9
      subst h9
      have HBX9 : Hid (Below (w.heap.size + 1) (w.alloc (.cells #[.int .i64 x, .int .i64 y, .int .i64 z] 39)) w9) := HBX.out.trans (hb9.mono (by omega))
      clear hb9 q0 q1 q2
      obtain ⟨q0, q1, q2, zb9⟩ := box3Q HBX9.out (by omega)
      go_wp2_with fail
      refine wp_region_later (w9.heap.size) (by kernel_rfl) (by kernel_rfl) ?_
      repeat (first | go_big_quiet_skip | (go_big_quiet_want; go_big_quiet_op; go_big_quiet_on))
      refine wpQuiet_nil ?_
      rintro w1 ⟨⟨w1', hb9⟩, h9⟩
      change w1 = w1' at h9
      subst h9
      have HBX1 : Hid (Below (w.heap.size + 1) (w.alloc (.cells #[.int .i64 x, .int .i64 y, .int .i64 z] 39)) w1) := HBX9.out.trans (hb9.mono (by omega))
      have HBw : Hid (Below w.heap.size w w1) := ((Below.refl _ _).alloc (Nat.le_refl _) _).trans (HBX1.out.mono (by omega))
      clear hb9 q0 q1 q2
      obtain ⟨q0, q1, q2, zb1⟩ := box3Q HBX1.out (by omega)
      have hb01 : b0 < w1.heap.size := by have := HBw.out.size; omega
      have HV1 : Hid (CVQ w1 b0 off0 (c3 l)) := HV.out.later hb0 HBw.out
      have hz2 := HBw.out.size
      go_upto_region 7 with fail
      by_cases hck : cap = k
      · go_region_law (first
          | (refine step_append_below _ w1 w1.heap.size (by (repeat (first | exact Below.refl _ _ | apply Below.drew | apply below_drewN | (refine Below.setCell ?_ (by first | omega | (simp; done) | (simp; omega) | (dsimp only; omega)) _) | (refine Below.alloc ?_ (by first | omega | (simp; done) | (simp; omega) | (dsimp only; omega)) _)))) (by rfl) _ _ 24 (by rfl) 39 s0 (.agg #[.int .i64 0, .int .i64 0, .int .i64 0]) 3 24 Try.underlying24 si sz0 sz1 sz2 rfl (by decide) (.slice (some ⟨_, 0, none⟩) 0 0) 0 [] (by rfl) (own_emptyG (by first | exact heap1 w1 _ | exact heap2 w1 _ _ | exact heap3 w1 _ _) (by simp)) ⟨b0, off0, none⟩ k _ ((c3 l).take (k * 3)) (by rfl) (by rw [List.length_take, HCL.out]; omega) (cvq_take (HV1.out.later hb01 (by (repeat (first | exact Below.refl _ _ | apply Below.drew | apply below_drewN | (refine Below.setCell ?_ (by first | omega | (simp; done) | (simp; omega) | (dsimp only; omega)) _) | (refine Below.alloc ?_ (by first | omega | (simp; done) | (simp; omega) | (dsimp only; omega)) _))))) (k * 3)) (fun u hu => c3_oneT u (List.mem_of_mem_take hu)) (by unfold maxLen; omega) (by omega) (by simp; try omega) ?_; intro v1 wA ho1 hg1 hb1; have r0 := (hb1.cell (p := ⟨w.heap.size, 0, none⟩) zb1).trans q0; have r1 := (hb1.cell (p := ⟨w.heap.size, 1, none⟩) zb1).trans q1; have r2 := (hb1.cell (p := ⟨w.heap.size, 2, none⟩) zb1).trans q2)
          | (refine step_append_below _ w1 w1.heap.size (hb1.alloc hb1.size _) (by rfl) _ _ 24 (by rfl) 39 s0 (.agg #[.int .i64 0, .int .i64 0, .int .i64 0]) 3 24 Try.underlying24 si sz0 sz1 sz2 rfl (by decide) _ _ _ (by rfl) (ho1.alloc _) ⟨_, 0, none⟩ 1 1 (encT (x, y, z)) (by rfl) (by rfl) (threeNew _ _ x y z) (fun t ht => c3_oneT (l := [(x, y, z)]) t (by simpa [c3, encT] using ht)) (by unfold maxLen; omega) (by omega) (by have := hb1.size; simp; omega) ?_; intro v2 wB ho2 hg2 hb2)
          | (refine step_append_below _ w1 w1.heap.size hb1 (by rfl) _ _ 24 (by rfl) 39 s0 (.agg #[.int .i64 0, .int .i64 0, .int .i64 0]) 3 24 Try.underlying24 si sz0 sz1 sz2 rfl (by decide) _ _ _ (by rfl) ho1 ⟨_, 0, none⟩ 1 1 (encT (x, y, z)) (by rfl) (by rfl) (by intro j u hu; rw [add_at rfl, hg1.cell_far ⟨_, _, none⟩ (by simp; try omega) (by simp [Value.ownBlock]; try omega)]; exact threeAt hu (by simp [go_sem]) (by simp [go_sem]) (by simp [go_sem])) (fun t ht => c3_oneT (l := [(x, y, z)]) t (by simpa [c3, encT] using ht)) (by unfold maxLen; omega) (by omega) hb1.size ?_; intro v2 wB ho2 hg2 hb2)
          | (refine step_append_below _ w1 w1.heap.size hb2 (by rfl) _ _ 24 (by rfl) 39 s0 (.agg #[.int .i64 0, .int .i64 0, .int .i64 0]) 3 24 Try.underlying24 si sz0 sz1 sz2 rfl (by decide) _ _ _ (by rfl) ho2 ⟨b0, off0, none⟩ 0 _ ((c3 l).drop (k * 3)) (by rfl) (by rw [List.length_drop, HCL.out]; omega) (by rw [List.drop_of_length_le (by rw [HCL.out]; omega)]; intro j u hu; simp at hu) (fun u hu => c3_oneT u (List.mem_of_mem_drop hu)) (by unfold maxLen; omega) (by omega) hb2.size ?_; intro v3 wC ho3 hg3 hb3))
        all_goals
          obtain ⟨g3, cq3, rfl, hi3, hlo3⟩ := put_endT (Nat.le_trans hbw (by omega)) (Nat.le_refl _) HLN.out (by rw [Nat.sub_self]; exact ho3)
          have HI := Lib.hid hi3; clear hi3
          clear ho3 ho2 ho1 hg1 hg2 hg3
          go_wp2
          go_ret
          have hlN : (l.take k ++ (x, y, z) :: l.drop k).length = k + 1 := by simp [HLN.out] <;> omega
          exact ⟨l.take k ++ (x, y, z) :: l.drop k, g3, cq3, by rw [hlN]; rfl, by omega, by rw [hlN]; exact HI.out, .inr (by omega), HBw.out.trans (hb3.mono hz2)⟩

      · go_region_law (first
          | (refine step_append_below _ w1 w1.heap.size (by (repeat (first | exact Below.refl _ _ | apply Below.drew | apply below_drewN | (refine Below.setCell ?_ (by first | omega | (simp; done) | (simp; omega) | (dsimp only; omega)) _) | (refine Below.alloc ?_ (by first | omega | (simp; done) | (simp; omega) | (dsimp only; omega)) _)))) (by rfl) _ _ 24 (by rfl) 39 s0 (.agg #[.int .i64 0, .int .i64 0, .int .i64 0]) 3 24 Try.underlying24 si sz0 sz1 sz2 rfl (by decide) (.slice (some ⟨_, 0, none⟩) 0 0) 0 [] (by rfl) (own_emptyG (by first | exact heap1 w1 _ | exact heap2 w1 _ _ | exact heap3 w1 _ _) (by simp)) ⟨b0, off0, none⟩ k _ ((c3 l).take (k * 3)) (by rfl) (by rw [List.length_take, HCL.out]; omega) (cvq_take (HV1.out.later hb01 (by (repeat (first | exact Below.refl _ _ | apply Below.drew | apply below_drewN | (refine Below.setCell ?_ (by first | omega | (simp; done) | (simp; omega) | (dsimp only; omega)) _) | (refine Below.alloc ?_ (by first | omega | (simp; done) | (simp; omega) | (dsimp only; omega)) _))))) (k * 3)) (fun u hu => c3_oneT u (List.mem_of_mem_take hu)) (by unfold maxLen; omega) (by omega) (by simp; try omega) ?_; intro v1 wA ho1 hg1 hb1; have r0 := (hb1.cell (p := ⟨w.heap.size, 0, none⟩) zb1).trans q0; have r1 := (hb1.cell (p := ⟨w.heap.size, 1, none⟩) zb1).trans q1; have r2 := (hb1.cell (p := ⟨w.heap.size, 2, none⟩) zb1).trans q2)
          | (refine step_append_below _ w1 w1.heap.size (hb1.alloc hb1.size _) (by rfl) _ _ 24 (by rfl) 39 s0 (.agg #[.int .i64 0, .int .i64 0, .int .i64 0]) 3 24 Try.underlying24 si sz0 sz1 sz2 rfl (by decide) _ _ _ (by rfl) (ho1.alloc _) ⟨_, 0, none⟩ 1 1 (encT (x, y, z)) (by rfl) (by rfl) (threeNew _ _ x y z) (fun t ht => c3_oneT (l := [(x, y, z)]) t (by simpa [c3, encT] using ht)) (by unfold maxLen; omega) (by omega) (by have := hb1.size; simp; omega) ?_; intro v2 wB ho2 hg2 hb2)
          | (refine step_append_below _ w1 w1.heap.size hb1 (by rfl) _ _ 24 (by rfl) 39 s0 (.agg #[.int .i64 0, .int .i64 0, .int .i64 0]) 3 24 Try.underlying24 si sz0 sz1 sz2 rfl (by decide) _ _ _ (by rfl) ho1 ⟨_, 0, none⟩ 1 1 (encT (x, y, z)) (by rfl) (by rfl) (by intro j u hu; rw [add_at rfl, hg1.cell_far ⟨_, _, none⟩ (by simp; try omega) (by simp [Value.ownBlock]; try omega)]; exact threeAt hu (by simp [go_sem]) (by simp [go_sem]) (by simp [go_sem])) (fun t ht => c3_oneT (l := [(x, y, z)]) t (by simpa [c3, encT] using ht)) (by unfold maxLen; omega) (by omega) hb1.size ?_; intro v2 wB ho2 hg2 hb2)
          | (refine step_append_below _ w1 w1.heap.size hb2 (by rfl) _ _ 24 (by rfl) 39 s0 (.agg #[.int .i64 0, .int .i64 0, .int .i64 0]) 3 24 Try.underlying24 si sz0 sz1 sz2 rfl (by decide) _ _ _ (by rfl) ho2 ⟨b0, off0 + k * 3, none⟩ 0 _ ((c3 l).drop (k * 3)) (by rfl) (by rw [List.length_drop, HCL.out]; omega) (cvq_drop (HV1.out.later hb01 hb2) (k * 3)) (fun u hu => c3_oneT u (List.mem_of_mem_drop hu)) (by unfold maxLen; omega) (by omega) hb2.size ?_; intro v3 wC ho3 hg3 hb3))
        all_goals
          obtain ⟨g3, cq3, rfl, hi3, hlo3⟩ := put_endT (Nat.le_trans hbw (by omega)) (Nat.le_refl _) HLN.out (by rw [Nat.sub_self]; exact ho3)
          have HI := Lib.hid hi3; clear hi3
          clear ho3 ho2 ho1 hg1 hg2 hg3
          go_wp2
          go_ret
          have hlN : (l.take k ++ (x, y, z) :: l.drop k).length = k + 1 := by simp [HLN.out] <;> omega
          exact ⟨l.take k ++ (x, y, z) :: l.drop k, g3, cq3, by rw [hlN]; rfl, by omega, by rw [hlN]; exact HI.out, .inr (by omega), HBw.out.trans (hb3.mono hz2)⟩
end Go.Proofs.Ytcjcgcgcloanpaa

namespace Go.KD
open Go.RowKit
variable {c n n' base g s4 ng : Nat} {e4 e1 : TypeId} {w W W2 W3 : World} {sz : Int} {xg : List Value} {vg vp : Value} {pl : List Int}
/-- A maze whose two rows lie in memory of the call. -/
def MazeO (base : Nat) (v : Value) (m : Mz) (W : World) : Prop := ∃ vg vp, v = .agg #[.int .i64 m.size, vg, vp] ∧ W.ownsRow base 39 3 vg m.doors.length (c3 m.doors) ∧ W.ownsRow base 3 1 vp m.keys.length (ints m.keys) ∧ (∀ b, vg.ownBlock = some b → vp.ownBlock ≠ some b)
theorem MazeO.at {base : Nat} {v : Value} {m : Mz} {W : World} (h : MazeO base v m W) (h1 : m.doors.length ≤ 40) (h2 : m.keys.length ≤ 40) : ∀ w'', Chg 0 base W w'' → MzAt w'' v m := by
  obtain ⟨vg, vp, rfl, r1, r2, -⟩ := h
  intro w'' hch
  have q1 := ((Own.of r1).chg hch (.inr (by omega))).row
  have q2 := ((Own.of r2).chg hch (.inr (by omega))).row
  obtain ⟨ag, cg', rfl, -, hd⟩ := (Own.of q1).d3
  obtain ⟨ap, cp', rfl, -, hi⟩ := (Own.of q2).ic
  exact ⟨⟨_, _, _, _, rfl, hd, hi⟩, by (try dsimp only); omega, by (try dsimp only); omega⟩
theorem mazeO_none (base : Nat) (W : World) : MazeO base (.agg #[.int .i64 0, .slice none 0 0, .slice none 0 0]) ⟨0, [], []⟩ W :=
  ⟨_, _, rfl, ⟨rfl, .inl ⟨rfl, rfl⟩⟩, ⟨rfl, .inl ⟨rfl, rfl⟩⟩, fun b hb => by cases hb⟩
/-- Stores below the rows do nothing to them. -/
theorem MazeO.set {base r o : Nat} {v : Value} {m : Mz} {W : World} (h : MazeO base v m W) (hr : r < base) (u : Value) : MazeO base v m (W.setCell ⟨r, o, none⟩ u) := by
  obtain ⟨vg, vp, rfl, r1, r2, r3⟩ := h
  exact ⟨vg, vp, rfl, own_setC r1 (fun e => by have := own_block_lo r1 e; (try dsimp only at this); omega) _, own_setC r2 (fun e => by have := own_block_lo r2 e; (try dsimp only at this); omega) _, r3⟩
theorem MazeO.mono {base base' : Nat} {v : Value} {m : Mz} {W : World} (h : MazeO base v m W) (hb : base' ≤ base) : MazeO base' v m W := by
  obtain ⟨vg, vp, rfl, r1, r2, r3⟩ := h
  exact ⟨vg, vp, rfl, (Own.mono (Own.of r1) hb (Nat.le_refl _)).row, (Own.mono (Own.of r2) hb (Nat.le_refl _)).row, r3⟩
theorem MazeO.chg {c base : Nat} {v : Value} {m : Mz} {W W' : World} (h : MazeO base v m W) (hc : c < base) (k : Chg c (c + 1) W W') : MazeO base v m W' := by
  obtain ⟨vg, vp, rfl, r1, r2, r3⟩ := h
  exact ⟨vg, vp, rfl, own_chgC r1 k hc, own_chgC r2 k hc, r3⟩
theorem MazeO.below {base B : Nat} {v : Value} {m : Mz} {W W' : World} (h : MazeO base v m W) (k : Below B W W') (hB : W.heap.size ≤ B) : MazeO base v m W' := by
  obtain ⟨vg, vp, rfl, r1, r2, r3⟩ := h
  exact ⟨vg, vp, rfl, own_belowW' r1 (k.mono hB), own_belowW' r2 (k.mono hB), r3⟩
/-- What a draw of a maze gives. -/
def MazeP (c n : Nat) (w : World) (e : Ending) (w' : World) : Prop := ∃ v, ∃ m : Mz, e = .returned v ∧ MazeO w.heap.size v m w' ∧ m.doors.length ≤ 40 ∧ m.keys.length ≤ 40 ∧ (0 ≤ m.size ∧ m.size ≤ 13) ∧ CuW c n w w'
theorem maze_endV {wr0 : World} {r n0 : Nat} {gl : List D3} (h : WB c n base g 39 3 3 wr0 W sz (c3 gl) gl.length vg pl vp) (h0 : CuW c n0 w wr0) (hr : r < base) (hc : c < r) (hw : w.heap.size ≤ r) (x0 x1 x2 : Value) :
    MazeO w.heap.size (.agg #[.int .i64 sz, vg, vp]) ⟨sz, gl, pl⟩ (((W.setCell ⟨r, 0, none⟩ x0).setCell ⟨r, 1, none⟩ x1).setCell ⟨r, 2, none⟩ x2) ∧ CuW c n w (((W.setCell ⟨r, 0, none⟩ x0).setCell ⟨r, 1, none⟩ x1).setCell ⟨r, 2, none⟩ x2) := by
  have hbw := h.bb
  have hwb := h.wb
  have hm : MazeO base (.agg #[.int .i64 sz, vg, vp]) ⟨sz, gl, pl⟩ W := ⟨vg, vp, rfl, h.rg, h.rp, h.ap⟩
  exact ⟨(((hm.set hr x0).set hr x1).set hr x2).mono (by omega), cuw_set (cuw_set (cuw_set (h0.trans h.cu) (a := ⟨r, 0, none⟩) hc hw x0) (a := ⟨r, 1, none⟩) hc hw x1) (a := ⟨r, 2, none⟩) hc hw x2⟩
theorem maze_end {wr0 : World} {r bg cg bp cp n0 : Nat} {gl : List D3} (h : WB c n base g 39 3 3 wr0 W sz (c3 gl) gl.length (.slice (some ⟨bg, 0, none⟩) gl.length cg) pl (.slice (some ⟨bp, 0, none⟩) pl.length cp)) (h0 : CuW c n0 w wr0) (hr : r < base) (hc : c < r) (hw : w.heap.size ≤ r) (h1 : gl.length ≤ 40) (h2 : pl.length ≤ 40) (x0 x1 x2 : Value) :
    MazeO w.heap.size (.agg #[.int .i64 sz, .slice (some ⟨bg, 0, none⟩) gl.length cg, .slice (some ⟨bp, 0, none⟩) pl.length cp]) ⟨sz, gl, pl⟩ (((W.setCell ⟨r, 0, none⟩ x0).setCell ⟨r, 1, none⟩ x1).setCell ⟨r, 2, none⟩ x2) ∧ CuW c n w (((W.setCell ⟨r, 0, none⟩ x0).setCell ⟨r, 1, none⟩ x1).setCell ⟨r, 2, none⟩ x2) :=
  maze_endV h h0 hr hc hw x0 x1 x2
/-- A maze is laid into a new block. -/
theorem WB.ofM {v1 v2 : Value} {m : Mz} {T : TypeId} (h : MazeO w.heap.size (.agg #[.int .i64 m.size, v1, v2]) m W) (hb : c < w.heap.size) (hW : CuW c n w W) : WB c n w.heap.size W.heap.size 39 3 3 w (W.alloc (.cells #[.int .i64 m.size, v1, v2] T)) m.size (c3 m.doors) m.doors.length v1 m.keys v2 := by
  obtain ⟨vg, vp, he, r1, r2, r3⟩ := h
  cases he
  have hs := hW.ch.size
  exact ⟨hW.alloc _, by simp [go_sem], by simp [go_sem], by simp [go_sem], fun o ho => by simp [go_sem], r1.alloc _, r2.alloc _, r3, fun e => by have := Own.block_lt r1 e; omega, fun e => by have := Own.block_lt r2 e; omega, hs, by simp, hb, Nat.le_refl _⟩
/-- Another first row. -/
theorem WB.first2 {xg' : List Value} {ng' lo : Nat} {vg' : Value} (h : WB c n base g e4 e1 s4 w W sz xg ng vg pl vp) (ho : W.ownsRow lo e4 s4 vg' ng' xg') (hlo : base ≤ lo) (hg : g < lo) (hp : ∀ b, vp.ownBlock = some b → b < lo) :
    WB c n base g e4 e1 s4 w (W.setCell ⟨g, 1, none⟩ vg') sz xg' ng' vg' pl vp := by
  have hb := h.bb
  have hgb := h.gb
  have hw := h.wb
  have hgz := h.gz
  have hgg : vg'.ownBlock ≠ some g := fun e => by have := own_block_lo ho e; omega
  refine ⟨cuw_set h.cu (by show c < g; omega) (by show w.heap.size ≤ g; omega) _, (cell_setO _ _ (by omega)).trans h.c0, cell_setS _ _ h.c1, (cell_setO _ _ (by omega)).trans h.c2, fun o ho => (frozen_set _ _ _ _).trans (h.fz o ho), own_setC (Own.mono (Own.of ho) hlo (Nat.le_refl _)).row hgg _, own_setC h.rp h.gp _, fun b hbb e => ?_, hgg, h.gp, hgb, by simpa using h.gz, hb, hw⟩
  have h1 := own_block_lo ho hbb
  have h2 := hp b e
  omega
theorem WB.cel3 {gl : List D3} {bg cg kk : Nat} (h : WB c n base g e4 e1 3 w W sz (c3 gl) gl.length (.slice (some ⟨bg, 0, none⟩) gl.length cg) pl vp) (hk : kk < gl.length) :
    ∃ y0 y1 y2 : Int, W.cell? ⟨bg, kk * 3, none⟩ = some (.int .i64 y0) ∧ W.cell? ⟨bg, kk * 3 + 1, none⟩ = some (.int .i64 y1) ∧ W.cell? ⟨bg, kk * 3 + 2, none⟩ = some (.int .i64 y2) ∧ W.frozen? ⟨bg, kk * 3, none⟩ = false ∧ W.frozen? ⟨bg, kk * 3 + 1, none⟩ = false ∧ W.frozen? ⟨bg, kk * 3 + 2, none⟩ = false ∧ bg < W.heap.size ∧ bg ≠ g := by
  obtain ⟨h0, h1, h2⟩ := get_c3 gl kk hk
  exact ⟨_, _, _, by rw [h.rg.cellAt _ (by omega), h0], by rw [h.rg.cellAt _ (by omega), h1], by rw [h.rg.cellAt _ (by omega), h2], (own_cell h.rg (kk * 3) (by omega)).2, (own_cell h.rg (kk * 3 + 1) (by omega)).2, (own_cell h.rg (kk * 3 + 2) (by omega)).2, Own.block_lt h.rg rfl, fun e => h.gg (by rw [e]; rfl)⟩
theorem WB.three {gl : List D3} {bg cg : Nat} (h : WB c n base g e4 e1 3 w W sz (c3 gl) gl.length (.slice (some ⟨bg, 0, none⟩) gl.length cg) pl vp) (hk : 0 < gl.length) :
    ∃ y0 y1 y2 : Int, W.cell? ⟨bg, 0, none⟩ = some (.int .i64 y0) ∧ W.cell? ⟨bg, 1, none⟩ = some (.int .i64 y1) ∧ W.cell? ⟨bg, 2, none⟩ = some (.int .i64 y2) := by
  obtain ⟨h0, h1, h2⟩ := get_c3 gl 0 hk
  simp only [Nat.zero_mul, Nat.zero_add] at h0 h1 h2
  exact ⟨_, _, _, by rw [h.rg.cellAt _ (by omega), h0], by rw [h.rg.cellAt _ (by omega), h1], by rw [h.rg.cellAt _ (by omega), h2]⟩
theorem WB.set3 {gl : List D3} {bg cg kk : Nat} (h : WB c n base g e4 e1 3 w W sz (c3 gl) gl.length (.slice (some ⟨bg, 0, none⟩) gl.length cg) pl vp) (a b d : Int) :
    ∃ gl' : List D3, gl'.length = gl.length ∧ WB c n base g e4 e1 3 w (((W.setCell ⟨bg, kk * 3, none⟩ (.int .i64 a)).setCell ⟨bg, kk * 3 + 1, none⟩ (.int .i64 b)).setCell ⟨bg, kk * 3 + 2, none⟩ (.int .i64 d)) sz (c3 gl') gl'.length (.slice (some ⟨bg, 0, none⟩) gl'.length cg) pl vp := by
  have h4 := ((h.setg (j := kk * 3) (x := a)).setg (j := kk * 3 + 1) (x := b)).setg (j := kk * 3 + 2) (x := d)
  obtain ⟨gl', h1, h2⟩ := c3_of gl.length _ (by have := h4.rg.1; exact this) ((((ai_c3 gl).set (kk * 3) a).set (kk * 3 + 1) b).set (kk * 3 + 2) d)
  refine ⟨gl', h1, ?_⟩
  rw [h2, h1]
  exact h4
theorem WB.start2 {T : TypeId} {b0 : Nat} (hb0 : w.heap.size = b0) (h0 : Cu c n' w) (hb : c < w.heap.size) (h : CuW c n ((w.alloc (.cells #[] e4)).alloc (.cells #[] e1)) W) : WB c n w.heap.size W.heap.size e4 e1 s4 w (W.alloc (.cells #[.int .i64 sz, .slice (some ⟨b0, 0, none⟩) 0 0, .slice (some ⟨b0 + 1, 0, none⟩) 0 0] T)) sz [] 0 (.slice (some ⟨b0, 0, none⟩) 0 0) [] (.slice (some ⟨b0 + 1, 0, none⟩) 0 0) := by
  subst hb0
  have hW : CuW c n w W := (((CuW.refl h0).alloc _).alloc _).trans h
  have hs := h.ch.size
  have hs2 : w.heap.size + 1 + 1 ≤ W.heap.size := by simpa using hs
  have ra : ((w.alloc (.cells #[] e4)).alloc (.cells #[] e1)).ownsRow w.heap.size e4 s4 (.slice (some ⟨w.heap.size, 0, none⟩) 0 0) 0 [] := by
    refine ⟨by simp, .inr ⟨w.heap.size, 0, #[], rfl, Nat.le_refl _, ?_, Nat.le_refl _, Nat.zero_le _, by simp, by simp⟩⟩
    rw [heap_alloc_old _ _ (by simp)]
    exact heap_alloc_last w _
  have rb : ((w.alloc (.cells #[] e4)).alloc (.cells #[] e1)).ownsRow w.heap.size e1 1 (.slice (some ⟨w.heap.size + 1, 0, none⟩) 0 0) 0 [] := by
    refine ⟨by simp, .inr ⟨w.heap.size + 1, 0, #[], rfl, by omega, ?_, Nat.le_refl _, Nat.zero_le _, by simp, rfl⟩⟩
    have := heap_alloc_last (w.alloc (.cells #[] e4)) (.cells #[] e1)
    simpa using this
  have qa := (own_chgC ra h.ch hb).alloc (.cells #[.int .i64 sz, .slice (some ⟨w.heap.size, 0, none⟩) 0 0, .slice (some ⟨w.heap.size + 1, 0, none⟩) 0 0] T)
  have qb := (own_chgC rb h.ch hb).alloc (.cells #[.int .i64 sz, .slice (some ⟨w.heap.size, 0, none⟩) 0 0, .slice (some ⟨w.heap.size + 1, 0, none⟩) 0 0] T)
  refine ⟨hW.alloc _, by simp [go_sem], by simp [go_sem], by simp [go_sem], fun o ho => by simp [go_sem], qa, qb, fun b hb1 hb2 => ?_, fun e => ?_, fun e => ?_, by omega, by simp, hb, Nat.le_refl _⟩
  · have h1 : w.heap.size = b := by simpa [Value.ownBlock] using hb1
    have h2 : w.heap.size + 1 = b := by simpa [Value.ownBlock] using hb2
    omega
  · have h1 : w.heap.size = W.heap.size := by simpa [Value.ownBlock] using e
    omega
  · have h1 : w.heap.size + 1 = W.heap.size := by simpa [Value.ownBlock] using e
    omega
end Go.KD
namespace Go.Proofs.Ytcjcgcgcloanpaa
open Go.RowKit Go.KD
attribute [local go_sem] later_cell later_frozen
theorem pickJ_c (c n k : Nat) (ki : Int) (hki : ki = (k : Int)) (hk0 : 0 < k) (hk : k ≤ 10000) (hn : n ≤ 900000) (w : World) (h : Cu c n w) : Calls Try.prog 145 #[.pointer (some ⟨c, 0, none⟩), .int .i64 ki] w (NatP c (n + 2) k w) := by
  subst hki; exact pick_c c n k hk0 hk hn w h
/-- A door is put into a maze that a draw makes. -/
theorem l2PutW_c (c n base g : Nat) (sz : Int) (gl : List D3) (bg cg : Nat) (pl : List Int) (vp : Value) (x y z : Int) (w0 w : World) (h : WB c n base g 39 3 3 w0 w sz (c3 gl) gl.length (.slice (some ⟨bg, 0, none⟩) gl.length cg) pl vp) (hl : gl.length ≤ 100) :
    Calls Try.prog 146 #[.slice (some ⟨bg, 0, none⟩) gl.length cg, .int .i64 x, .int .i64 y, .int .i64 z] w fun e w' => ∃ gl' : List D3, ∃ g' c', e = .returned (.slice (some ⟨g', 0, none⟩) gl'.length c') ∧ gl'.length ≤ gl.length + 1 ∧ w'.cell? ⟨g, 1, none⟩ = some (.slice (some ⟨bg, 0, none⟩) gl.length cg) ∧ w'.frozen? ⟨g, 1, none⟩ = false ∧ g < w'.heap.size ∧
      WB c n base g 39 3 3 w0 (w'.setCell ⟨g, 1, none⟩ (.slice (some ⟨g', 0, none⟩) gl'.length c')) sz (c3 gl') gl'.length (.slice (some ⟨g', 0, none⟩) gl'.length c') pl vp := by
  obtain ⟨q1, q2, q3, q4, q5⟩ := own_someP h.rg
  refine (l2PutO_c base bg 0 cg gl.length rfl gl x y z w h.rg (by have := h.gb; have := h.gz; omega) rfl q1 q5 q2 q3 (by omega)).mono ?_
  rintro e w9 ⟨gl9, g9, cp9, rfl, hlen9, ho9, ha9, hb9⟩
  have hb := h.below hb9 (Nat.le_refl _)
  exact ⟨gl9, g9, cp9, rfl, hlen9, hb.c1, hb.fz 1 (by omega), hb.gz, h.first hb9 ho9 (by rcases ha9 with h | h; (left; rw [h]; rfl); (right; exact h))⟩
end Go.Proofs.Ytcjcgcgcloanpaa

namespace Go.Proofs.Ytcjcgcgcloanpaa
open Go.RowKit Go.KD
attribute [local go_sem] later_cell later_frozen
set_option maxRecDepth 100000 in
set_option maxHeartbeats 8000000 in
theorem someMaze_c (c n sz : Nat) (hs1 : 1 ≤ sz) (hs12 : sz ≤ 12) (hn : n ≤ 500000) (w : World) (h : Cu c n w) : Calls Try.prog 143 #[.pointer (some ⟨c, 0, none⟩), .int .i64 sz] w (MazeP c (n + 1000) w) := by
  obtain ⟨i0, hi, hz0, hz1, hz2⟩ := info_parts infoI
  obtain ⟨s0, si, sz0, sz1, sz2⟩ := info_parts infoA3D
  have HC := Lib.hid h
  have hcz := h.lt
  clear h
  obtain ⟨wr0, hwr0⟩ : ∃ wr0, wr0 = w.alloc (.cells #[.int .i64 0, .slice none 0 0, .slice none 0 0] 27) := ⟨_, rfl⟩
  have HWR0 := Lib.hid hwr0
  have HS0 : Hid (wr0.heap.size = w.heap.size + 1) := by show _ = _; rw [hwr0]; simp
  have HCR : Hid (CuW c n w wr0) := by show CuW c n w wr0; rw [hwr0]; exact (CuW.refl HC.out).alloc _
  clear hwr0
  have hcr : c < wr0.heap.size := HCR.out.cu.lt
  have hszI : (sz : Int) < 13 := by omega
  go_enter Try.func143, Try.ntmps143
  go_wp2_with fail
  rw [← HWR0.out]
  refine (pickJ_c c n 6 _ (by rfl) (by omega) (by omega) (by omega) _ (((CuW.refl HCR.out.cu).alloc _).alloc _).cu).mono ?_
  rintro e w2 ⟨r, rfl, hr, hc2, hu2⟩
  have HW2 : Hid (CuW c (n + 2) ((wr0.alloc (.cells #[] 39)).alloc (.cells #[] 3)) w2) := ⟨hc2, hu2⟩
  clear hc2 hu2
  obtain ⟨mm, hmm, hm1, hm6⟩ : ∃ mm : Nat, 1 + (r : Int) = (mm : Int) ∧ 1 ≤ mm ∧ mm ≤ 6 := ⟨1 + r, by omega, by omega, by omega⟩
  go_wp2_with fail
  clear hmm
  have HB0 := Lib.hid (WB.start2 (s4 := 3) (T := 27) (sz := (sz : Int)) HS0.out HCR.out.cu hcr HW2.out)
  obtain ⟨g, hg⟩ : ∃ g, g = w2.heap.size := ⟨_, rfl⟩
  rw [← hg] at HB0 ⊢
  have HG := Lib.hid hg
  clear HW2 hg
  go_loopw [7, 8] (fun hv v wr => ∃ hN k : Nat, ∃ gl : List D3, ∃ pl : List Int, ∃ bg cg bp cp, hv = .int .i64 hN ∧ hN < 64 ∧ v = .int .i64 k ∧ k ≤ sz ∧ gl.length ≤ k ∧ pl.length = k ∧ Hid (WB c (n + 2 + 20 * k) wr0.heap.size g 39 3 3 wr0 wr (sz : Int) (c3 gl) gl.length (.slice (some ⟨bg, 0, none⟩) gl.length cg) pl (.slice (some ⟨bp, 0, none⟩) pl.length cp))) (fun _ v _ => sz - (intOf v).toNat)
  case atStart => exact ⟨0, 0, [], [], _, _, _, _, rfl, by omega, rfl, by omega, Nat.zero_le _, rfl, HB0⟩
  case round =>
    clear HB0
    obtain ⟨wo, rfl⟩ : ∃ wo : World, wo = wr := ⟨_, rfl⟩
    obtain ⟨hN, k, gl, pl, bg, cg, bp, cp, rfl, hhN, rfl, hk, hgl, hpl, HWB⟩ := hrel
    have HPL := Lib.hid hpl
    clear hpl
    have hk13 : (k : Int) < 13 := by omega
    by_cases hlt : k < sz
    · have hkI : (k : Int) < (sz : Int) := by omega
      go_wp2_with fail
      refine (one_c c (n + 2 + 20 * k) 2 (by omega) (by omega) (by omega) _ HWB.out.cu.cu).mono ?_
      rintro e w3 ⟨b3, rfl, hc3, hu3⟩
      have HWB3 := Lib.hid (HWB.out.draw ⟨hc3, hu3⟩)
      clear hc3 hu3 HWB
      go_upto_if 32 with fail
      go_cut [9] (fun s9 wx => ∃ t : Nat, s9 = .int .i64 t ∧ t < 64 ∧ Hid (WB c (n + 2 + 20 * k + 6) wr0.heap.size g 39 3 3 wr0 wx (sz : Int) (c3 gl) gl.length (.slice (some ⟨bg, 0, none⟩) gl.length cg) pl (.slice (some ⟨bp, 0, none⟩) pl.length cp)))
      case first =>
        cases b3
        · go_wp2_with fail
          go_meet
          case rel => exact ⟨0, rfl, by omega, HWB3.out.mono (by omega)⟩
        · go_wp2_with fail
          refine (pick_c c (n + 2 + 20 * k + 2) mm (by omega) (by omega) (by omega) _ HWB3.out.cu.cu).mono ?_
          rintro e w5 ⟨r5, rfl, hr5, hc5, hu5⟩
          have HWB5 := Lib.hid (HWB3.out.draw ⟨hc5, hu5⟩)
          clear hc5 hu5 HWB3
          obtain ⟨p, HP, ep, hp⟩ := shl_at r5 (by omega)
          have hp64 : p < 64 := by rw [HP.out]; exact Nat.pow_lt_pow_right (n := 6) (by omega) (by omega)
          have hr63 : (r5 : Int) < 64 := by omega
          have hr0 : (0 : Int) ≤ (r5 : Int) := by omega
          go_wp2_with fail
          go_meet
          case rel => exact ⟨p, rfl, hp64, HWB5.out.mono (by omega)⟩
      case rest =>
        clear HWB3
        obtain ⟨w4, rfl⟩ : ∃ w4 : World, w4 = wc := ⟨_, rfl⟩
        obtain ⟨t, rfl, ht, HWB4⟩ := hcut
        have hsz4 := HWB4.out.cu.ch.size
        have c2 := HWB4.out.c2
        have HWA := Lib.hid (HWB4.out.alloc (.cells #[.int .i64 (t : Int)] 3))
        have hplk : pl.length ≤ 12 := by rw [HPL.out]; omega
        have eo : bits .or .i64 (hN : Int) (t : Int) = ((hN ||| t : Nat) : Int) := i64_or hN t (by omega) (by omega)
        have hh2 : hN ||| t < 64 := Nat.or_lt_two_pow (n := 6) hhN ht
        obtain ⟨hM, hhM⟩ : ∃ hM, hM = hN ||| t := ⟨_, rfl⟩
        rw [← hhM] at eo hh2
        clear hhM
        go_upto_region 10 with (at_builtin; refine wpList_append_own_at _ rfl _ _ 25 rfl wr0.heap.size 3 i0 (.int .i64 0) 1 8 Try.underlying25 hi hz0 hz1 hz2 rfl (by decide) _ _ _ rfl HWA.out.rp ⟨w4.heap.size, 0, none⟩ 1 1 [.int .i64 (t : Int)] rfl rfl ?_ ?_ ?_ ?_ ?_ ?_; (exact cell_one_new _ _ _); (simp [Value.oneCell']); (unfold maxLen; omega); omega; (simp; omega); intro v' w5 hown' hgrow _ hat; obtain ⟨d1, d2, d3⟩ := HWA.out.far2 hgrow; have HWB5 := Lib.hid (HWA.out.push1 hown' hgrow hat); obtain ⟨bq, cq, hvq, -, -⟩ := own_someS hown' (by omega); subst hvq; clear hown' hgrow hat)
        have HPL5 : Hid ((pl ++ [(t : Int)]).length = k + 1) := by show _ = _; rw [List.length_append, HPL.out]; rfl
        by_cases hk0 : 0 < k
        · have hk0I : (0 : Int) < (k : Int) := by omega
          clear HWA HWB4 c2 d1 d2 d3
          go_wp2_with fail
          refine (few_c c (n + 2 + 20 * k + 6) mm (by omega) (by omega) (by omega) _ HWB5.out.cu.cu).mono ?_
          rintro e w6 ⟨t2, rfl, ht2, hc6, hu6⟩
          have HWB6 := Lib.hid (HWB5.out.draw ⟨hc6, hu6⟩)
          clear hc6 hu6 HWB5
          go_wp2_with fail
          refine (one_c c (n + 2 + 20 * k + 6 + 6) 3 (by omega) (by omega) (by omega) _ HWB6.out.cu.cu).mono ?_
          rintro e w7 ⟨b7, rfl, hc7, hu7⟩
          have HWB7 := Lib.hid (HWB6.out.draw ⟨hc7, hu7⟩)
          clear hc7 hu7 HWB6
          have ea : bits .and .i64 (t2 : Int) (hN : Int) = ((t2 &&& hN : Nat) : Int) := (bits_nat .i64 40 (by decide) wraps_i64 t2 hN (by omega) (by omega)).1
          go_upto_if 50 with fail
          go_cut [10] (fun s10 wx => ∃ t3 : Nat, s10 = .int .i64 t3 ∧ Hid (WB c (n + 2 + 20 * k + 6 + 6 + 2) wr0.heap.size g 39 3 3 wr0 wx (sz : Int) (c3 gl) gl.length (.slice (some ⟨bg, 0, none⟩) gl.length cg) (pl ++ [(t : Int)]) (.slice (some ⟨bq, 0, none⟩) (pl.length + 1) cq)))
          case first =>
            cases b7
            · go_wp2_with fail
              go_meet
              case rel => exact ⟨t2 &&& hN, rfl, HWB7.out⟩
            · go_wp2_with fail
              go_meet
              case rel => exact ⟨t2, rfl, HWB7.out⟩
          case rest =>
            clear HWB7 ea
            obtain ⟨w8, rfl⟩ : ∃ w8 : World, w8 = wc := ⟨_, rfl⟩
            obtain ⟨t3, rfl, HWB8⟩ := hcut
            have HWB8d := Lib.hid HWB8.out.drew
            have e8 := HWB8d.out.c1
            have hgl12 : gl.length ≤ 12 := by omega
            go_upto_region 14 with fail
            go_region_with
              (first
                | (go_at_call 145; (with_reducible refine (pick_c c (n + 2 + 20 * k + 6 + 6 + 2) k hk0 (by omega) (by omega) _ HWB8d.out.cu.cu).mono ?_); rintro e w9 ⟨r9, rfl, hr9, hc9, hu9⟩; have HWB9 := Lib.hid (HWB8d.out.draw ⟨hc9, hu9⟩); have e9 := HWB9.out.c1; clear hc9 hu9)
                | (go_at_call 146; (with_reducible refine (l2PutW_c c _ _ g _ gl bg cg _ _ _ _ _ _ _ HWB9.out (by omega)).mono ?_); rintro e wA ⟨glA, gA, cpA, rfl, hglA, eA, fA, zA, hwbA⟩; have HWBA := Lib.hid hwbA; clear hwbA))
            all_goals
              go_wp2_with fail
              go_roundw
              case rel => exact ⟨hM, k + 1, glA, pl ++ [(t : Int)], gA, cpA, bq, cq, rfl, hh2, by go_num, by omega, by omega, HPL5.out, by rw [List.length_append]; exact HWBA.out.mono (by omega)⟩
              case measure => simp [intOf]; omega
        · obtain rfl : k = 0 := by omega
          go_wp2_with fail
          go_roundw
          case rel => exact ⟨hM, 0 + 1, gl, pl ++ [(t : Int)], bg, cg, bq, cq, rfl, hh2, by go_num, by omega, by omega, HPL5.out, by rw [List.length_append]; exact HWB5.out.mono (by omega)⟩
          case measure => simp [intOf]; omega
    · obtain rfl : k = sz := by omega
      have hplk : pl.length ≤ 12 := by rw [HPL.out]; omega
      have hpl0 : 0 < pl.length := by rw [HPL.out]; omega
      go_wp2_with fail
      refine (pickJ_c c (n + 2 + 20 * k) 6 _ (by rfl) (by omega) (by omega) (by omega) _ HWB.out.cu.cu).mono ?_
      rintro e w3 ⟨j, rfl, hj, hc3, hu3⟩
      have HWB3 := Lib.hid ((HWB.out.draw ⟨hc3, hu3⟩).mono (n' := n + 400 - 20 * j) (by omega))
      clear hc3 hu3 HWB
      go_wp2_with fail
      go_loopw [11] (fun v wr => ∃ j : Nat, ∃ gl : List D3, ∃ bg cg, v = .int .i64 j ∧ j ≤ 5 ∧ gl.length ≤ 17 - j ∧ Hid (WB c (n + 400 - 20 * j) wr0.heap.size g 39 3 3 wr0 wr (k : Int) (c3 gl) gl.length (.slice (some ⟨bg, 0, none⟩) gl.length cg) pl (.slice (some ⟨bp, 0, none⟩) pl.length cp))) (fun v _ => (intOf v).toNat)
      case atStart => exact ⟨j, gl, bg, cg, rfl, by omega, by omega, HWB3⟩
      case round =>
        clear HWB3 hgl hj
        obtain ⟨wi, rfl⟩ : ∃ wi : World, wi = wr := ⟨_, rfl⟩
        obtain ⟨j, gl, bg, cg, rfl, hj, hgl, HWB⟩ := hrel
        by_cases hgo : 0 < j ∧ 1 < k
        · obtain ⟨hj0, hk1⟩ := hgo
          have hj0I : (0 : Int) < (j : Int) := by omega
          have hk1I : (1 : Int) < (k : Int) := by omega
          go_wp2_with fail
          refine (pick_c c (n + 400 - 20 * j) k (by omega) (by omega) (by omega) _ HWB.out.cu.cu).mono ?_
          rintro e w4 ⟨a4, rfl, ha4, hc4, hu4⟩
          have HWB4 := Lib.hid (HWB.out.draw ⟨hc4, hu4⟩)
          clear hc4 hu4 HWB
          go_wp2_with fail
          refine (pick_c c (n + 400 - 20 * j + 2) k (by omega) (by omega) (by omega) _ HWB4.out.cu.cu).mono ?_
          rintro e w5 ⟨b5, rfl, hb5, hc5, hu5⟩
          have HWB5 := Lib.hid (HWB4.out.draw ⟨hc5, hu5⟩)
          clear hc5 hu5 HWB4
          by_cases hab : a4 = b5
          · have hne : ((a4 : Int) != (b5 : Int)) = false := by simp [hab]
            clear hab
            go_wp2_with fail
            clear hne
            go_roundw
            case rel => exact ⟨j - 1, gl, bg, cg, by go_num, by omega, by omega, HWB5.out.mono (by omega)⟩
            case measure => simp [intOf]; omega
          · have hne : ((a4 : Int) != (b5 : Int)) = true := by simp; omega
            clear hab
            have HWB5d := Lib.hid HWB5.out.drew
            have e5 := HWB5d.out.c1
            go_upto_region 21 with fail
            clear hne
            go_region_with
              (first
                | (go_at_call 181; (with_reducible refine (few_c c (n + 400 - 20 * j + 2 + 2) mm (by omega) (by omega) (by omega) _ HWB5d.out.cu.cu).mono ?_); rintro e w7 ⟨r7, rfl, hr7, hc7, hu7⟩; have HWB7 := Lib.hid (HWB5d.out.draw ⟨hc7, hu7⟩); have e7 := HWB7.out.c1; clear hc7 hu7)
                | (go_at_call 146; (with_reducible refine (l2PutW_c c _ _ g _ gl bg cg _ _ _ _ _ _ _ HWB7.out (by omega)).mono ?_); rintro e w9 ⟨gl9, g9, cp9, rfl, hgl9, e9, f9, z9, hwb9⟩; have HWB9 := Lib.hid hwb9; clear hwb9))
            all_goals
              go_wp2_with fail
              go_roundw
              case rel => exact ⟨j - 1, gl9, g9, cp9, by go_num, by omega, by omega, HWB9.out.mono (by omega)⟩
              case measure => simp [intOf]; omega
        · have hgf : ¬ ((0 : Int) < (j : Int)) ∨ ((0 : Int) < (j : Int) ∧ ¬ ((1 : Int) < (k : Int))) := by omega
          have HWBx := Lib.hid (HWB.out.mono (n' := n + 400) (by omega))
          have hgl17 : gl.length ≤ 17 := by omega
          clear HWB hgl hj hgo
          rcases hgf with h1 | ⟨h1, h2⟩
          all_goals
            go_upto_region 22 with fail
            go_wp2_with fail
            refine (pickJ_c c (n + 400) 60 _ (by rfl) (by omega) (by omega) (by omega) _ HWBx.out.cu.cu).mono ?_
            rintro e w4 ⟨z, rfl, hz, hc4, hu4⟩
            have HWB4 := Lib.hid (HWBx.out.draw ⟨hc4, hu4⟩)
            have HG4 : Hid (w.heap.size < g ∧ wr0.heap.size ≤ g) := ⟨by have := HWBx.out.gb; rw [HS0.out] at this; omega, HWBx.out.gb⟩
            clear hc4 hu4 HWBx
            obtain ⟨zi, hzi⟩ : ∃ zi : Int, zi = (z : Int) := ⟨_, rfl⟩
            rw [← hzi]
            have hzc : zi = 0 ∨ zi = 1 ∨ zi = 2 ∨ zi = 3 ∨ zi = 4 ∨ 5 ≤ zi := by omega
            clear hzi
            have hgr := HG4.out.1
            rcases hzc with rfl | rfl | rfl | rfl | rfl | h5
            · have hcz4 : c < w4.heap.size := HWB4.out.cu.cu.lt
              have g0 := HWB4.out.c0
              have gz := HWB4.out.gz
              go_wp2_with fail
              refine (among_c c (n + 402) 3 3 _ [0, 13, (k : Int) + 1] rfl (by omega) (by omega) (by omega) _ (HWB4.out.cu.cu.later ((Below.refl _ _).alloc (Nat.le_refl _) _) hcz4) (fun w' hc => ic_litC rfl rfl (by simp) hcz4 hc rfl)).mono ?_
              clear g0 gz
              rintro e w5 ⟨x, rfl, hx, hc5, hu5⟩
              have HWB5 := Lib.hid ((HWB4.out.alloc _).draw ⟨hc5, hu5⟩)
              have HWB6 := Lib.hid (HWB5.out.size x)
              have g0 := HWB5.out.c0
              have f0 := HWB5.out.fz 0 (by omega)
              have gz := HWB5.out.gz
              have hxb : 0 ≤ x ∧ x ≤ 13 := by simp at hx; omega
              clear hx hc5 hu5 HWB4
              go_upto_region 37 with fail
              clear g0 f0 gz
              obtain ⟨w6, hw6⟩ : ∃ w6, w6 = w5.setCell ⟨g, 0, none⟩ (.int .i64 x) := ⟨_, rfl⟩
              rw [← hw6] at HWB6 ⊢
              clear hw6 HWB5
              obtain ⟨q0, q1, q2, q3, q4, q5, q6⟩ := res_facts HWR0.out HWB6.out.cu.ch hcz
              have g0 := HWB6.out.c0
              have g1 := HWB6.out.c1
              have g2 := HWB6.out.c2
              have gz := HWB6.out.gz
              obtain ⟨hA, hB⟩ := maze_end HWB6.out HCR.out (r := w.heap.size) (by rw [HS0.out]; omega) hcz (Nat.le_refl _) (by omega) (by (try rw [List.length_set]); omega) (.int .i64 x) (.slice (some ⟨bg, 0, none⟩) gl.length cg) (.slice (some ⟨bp, 0, none⟩) pl.length cp)
              have HA := Lib.hid hA
              have HB := Lib.hid hB
              clear hA hB
              go_wp2_with fail
              exact bodyPost_ret (v := .agg #[.int .i64 x, .slice (some ⟨bg, 0, none⟩) gl.length cg, .slice (some ⟨bp, 0, none⟩) pl.length cp]) (by simp [results, Try.results143, go_sem, q0, q1, q2, q3, q4, q5, q6]) rfl ⟨_, ⟨x, gl, pl⟩, rfl, HA.out, by dsimp only; omega, by dsimp only; (try rw [List.length_set]); omega, (by dsimp only; omega), HB.out.mono (by omega)⟩
            · have g1 := HWB4.out.c1
              by_cases hl0 : gl.length = 0
              · have hlf : ¬ ((0 : Int) < (gl.length : Int)) := by omega
                clear hl0
                go_upto_region 37 with fail
                clear g1 hlf
                obtain ⟨q0, q1, q2, q3, q4, q5, q6⟩ := res_facts HWR0.out HWB4.out.cu.ch hcz
                have g0 := HWB4.out.c0
                have g1 := HWB4.out.c1
                have g2 := HWB4.out.c2
                have gz := HWB4.out.gz
                obtain ⟨hA, hB⟩ := maze_end HWB4.out HCR.out (r := w.heap.size) (by rw [HS0.out]; omega) hcz (Nat.le_refl _) (by omega) (by (try rw [List.length_set]); omega) (.int .i64 (k : Int)) (.slice (some ⟨bg, 0, none⟩) gl.length cg) (.slice (some ⟨bp, 0, none⟩) pl.length cp)
                have HA := Lib.hid hA
                have HB := Lib.hid hB
                clear hA hB
                go_wp2_with fail
                exact bodyPost_ret (v := .agg #[.int .i64 (k : Int), .slice (some ⟨bg, 0, none⟩) gl.length cg, .slice (some ⟨bp, 0, none⟩) pl.length cp]) (by simp [results, Try.results143, go_sem, q0, q1, q2, q3, q4, q5, q6]) rfl ⟨_, ⟨(k : Int), gl, pl⟩, rfl, HA.out, by dsimp only; omega, by dsimp only; (try rw [List.length_set]); omega, (by dsimp only; omega), HB.out.mono (by omega)⟩
              · have hlf : (0 : Int) < (gl.length : Int) := by omega
                go_wp2_with fail
                refine (pick_c c (n + 402) gl.length (by omega) (by omega) (by omega) _ HWB4.out.cu.cu).mono ?_
                rintro e w5 ⟨kk, rfl, hkk, hc5, hu5⟩
                have HWB5 := Lib.hid (HWB4.out.draw ⟨hc5, hu5⟩)
                clear hc5 hu5 HWB4 g1 hl0
                have hk0 : (0 : Int) ≤ (kk : Int) := by omega
                have hkI : (kk : Int) < (gl.length : Int) := by omega
                obtain ⟨y0, y1, y2, d0, d1, d2, f0, f1, f2, bz, bne⟩ := HWB5.out.cel3 hkk
                have g1 := HWB5.out.c1
                go_upto_region 28 with fail
                go_still_tail 17, (by kernel_rfl)
                go_upto_region 37 with fail
                clear g1 d0 d1 d2 f0 f1 f2 bz bne
                obtain ⟨gl', hgl', hwb8⟩ := HWB5.out.set3 (kk := kk) y1 y0 0
                replace hwb8 := hwb8.drew
                obtain ⟨w8, hw8⟩ : ∃ w8, w8 = (((w5.setCell ⟨bg, kk * 3, none⟩ (.int .i64 y1)).setCell ⟨bg, kk * 3 + 1, none⟩ (.int .i64 y0)).setCell ⟨bg, kk * 3 + 2, none⟩ (.int .i64 0)).drew := ⟨_, rfl⟩
                rw [← hw8] at hwb8 ⊢
                have HWB8 := Lib.hid hwb8
                have hgl18 : gl'.length ≤ 17 := by omega
                clear hw8 hwb8 hgl' HWB5
                obtain ⟨q0, q1, q2, q3, q4, q5, q6⟩ := res_facts HWR0.out HWB8.out.cu.ch hcz
                have g0 := HWB8.out.c0
                have g1 := HWB8.out.c1
                have g2 := HWB8.out.c2
                have gz := HWB8.out.gz
                obtain ⟨hA, hB⟩ := maze_end HWB8.out HCR.out (r := w.heap.size) (by rw [HS0.out]; omega) hcz (Nat.le_refl _) (by omega) (by (try rw [List.length_set]); omega) (.int .i64 (k : Int)) (.slice (some ⟨bg, 0, none⟩) gl'.length cg) (.slice (some ⟨bp, 0, none⟩) pl.length cp)
                have HA := Lib.hid hA
                have HB := Lib.hid hB
                clear hA hB
                go_wp2_with fail
                exact bodyPost_ret (v := .agg #[.int .i64 (k : Int), .slice (some ⟨bg, 0, none⟩) gl'.length cg, .slice (some ⟨bp, 0, none⟩) pl.length cp]) (by simp [results, Try.results143, go_sem, q0, q1, q2, q3, q4, q5, q6]) rfl ⟨_, ⟨(k : Int), gl', pl⟩, rfl, HA.out, by dsimp only; omega, by dsimp only; (try rw [List.length_set]); omega, (by dsimp only; omega), HB.out.mono (by omega)⟩
            · have HWB4d := Lib.hid HWB4.out.drew
              have HCB : Hid (c < w4.heap.size) := HWB4.out.cu.cu.lt
              have g2 := HWB4.out.c2
              have hpl0I : (0 : Int) < (pl.length : Int) := by omega
              go_upto_region 31 with fail
              clear g2
              go_region_held3 (fun W => W.cell? ⟨g, 2, none⟩ = some (.slice (some ⟨bp, 0, none⟩) pl.length cp))
                (first
                  | with_reducible exact HWB4d.out.c2
                  | with_reducible exact ((HWB4.out.alloc _).drew).c2
                  | with_reducible exact HWB6.out.c2
                  | with_reducible exact (HWB6.out.alloc _).c2
                  | with_reducible exact HWB7.out.c2
                  | with_reducible exact HWB7.out.sps)
                (first
                  | (go_at_call 145; (with_reducible refine (pick_c c (n + 402) pl.length (by omega) (by omega) (by omega) _ HWB4d.out.cu.cu).mono ?_); rintro e w6 ⟨r6, rfl, hr6, hc6, hu6⟩; have HWB6 := Lib.hid (HWB4d.out.draw ⟨hc6, hu6⟩); have HC6 : Hid (c < w6.heap.size) := hu6.lt; have hr6I : (r6 : Int) < (pl.length : Int) := (by omega); have hr60 : (0 : Int) ≤ (r6 : Int) := (by omega); have HR6 : Hid (r6 < pl.length) := hr6; clear hc6 hu6)
                  | (go_at_call 145; (with_reducible refine (pick_c c (n + 402) pl.length (by omega) (by omega) (by omega) _ (HWB4.out.alloc _).drew.cu.cu).mono ?_); rintro e w6 ⟨r6, rfl, hr6, hc6, hu6⟩; have HWB6 := Lib.hid ((HWB4.out.alloc _).drew.draw ⟨hc6, hu6⟩); have hr6I : (r6 : Int) < (pl.length : Int) := (by omega); have hr60 : (0 : Int) ≤ (r6 : Int) := (by omega); have HR6 : Hid (r6 < pl.length) := hr6; have HLB : Hid (∀ w', Chg c (c + 1) w6 w' → IC w' (some ⟨w4.heap.size, 0, none⟩) [64, -1, 63]) := (fun w' hc => ic_d1 (by rfl) (by rfl) (by simp) HCB.out (hc6.trans hc)); clear hc6 hu6)
                  | (go_at_call 144; (with_reducible refine (among_c c (n + 404) 3 3 _ [64, -1, 63] ?_ (by omega) (by omega) (by omega) _ (HWB6.out.alloc _).cu.cu ?_).mono ?_); (rfl); (exact fun w' hc => ic_litC (by rfl) (by rfl) (by simp) HC6.out hc rfl); rintro e w7 ⟨x7, rfl, hx7, hc7, hu7⟩; have HWB7 := Lib.hid ((HWB6.out.alloc _).draw ⟨hc7, hu7⟩); clear hx7 hc7 hu7; obtain ⟨⟨t0, t1⟩, t2, t3, t4⟩ := HWB7.out.fp HR6.out)
                  | (go_at_call 144; (with_reducible refine (among_c c (n + 404) 3 3 _ [64, -1, 63] ?_ (by omega) (by omega) (by omega) _ HWB6.out.cu.cu ?_).mono ?_); (rfl); (exact fun w' hc => HLB.out w' hc); rintro e w7 ⟨x7, rfl, hx7, hc7, hu7⟩; have HWB7 := Lib.hid (HWB6.out.draw ⟨hc7, hu7⟩); clear hx7 hc7 hu7; obtain ⟨⟨t0, t1⟩, t2, t3, t4⟩ := HWB7.out.fp HR6.out))
              all_goals
                clear t0 t1 t2 t3 t4 HWB6 HWB4d HWB4
                go_upto_region 37 with fail
                have HWB8 := Lib.hid (HWB7.out.setp (j := r6) (x := x7))
                obtain ⟨w8, hw8⟩ : ∃ w8, w8 = w7.setCell ⟨bp, r6, none⟩ (.int .i64 x7) := ⟨_, rfl⟩
                rw [← hw8] at HWB8 ⊢
                obtain ⟨pl8, hpl8, hlen8⟩ : ∃ pl8, pl8 = pl.set r6 x7 ∧ pl8.length = pl.length := ⟨_, rfl, List.length_set⟩
                rw [← hpl8] at HWB8
                have hplk8 : pl8.length ≤ 12 := by omega
                clear hw8 hpl8 hlen8 HWB7 hr6I hr60
                obtain ⟨q0, q1, q2, q3, q4, q5, q6⟩ := res_facts HWR0.out HWB8.out.cu.ch hcz
                have g0 := HWB8.out.c0
                have g1 := HWB8.out.c1
                have g2 := HWB8.out.c2
                have gz := HWB8.out.gz
                obtain ⟨hA, hB⟩ := maze_end HWB8.out HCR.out (r := w.heap.size) (by rw [HS0.out]; omega) hcz (Nat.le_refl _) (by omega) (by (try rw [List.length_set]); omega) (.int .i64 (k : Int)) (.slice (some ⟨bg, 0, none⟩) gl.length cg) (.slice (some ⟨bp, 0, none⟩) pl8.length cp)
                have HA := Lib.hid hA
                have HB := Lib.hid hB
                clear hA hB
                go_wp2_with fail
                exact bodyPost_ret (v := .agg #[.int .i64 (k : Int), .slice (some ⟨bg, 0, none⟩) gl.length cg, .slice (some ⟨bp, 0, none⟩) pl8.length cp]) (by simp [results, Try.results143, go_sem, q0, q1, q2, q3, q4, q5, q6]) rfl ⟨_, ⟨(k : Int), gl, pl8⟩, rfl, HA.out, by dsimp only; omega, by dsimp only; (try rw [List.length_set]); omega, (by dsimp only; omega), HB.out.mono (by omega)⟩
            · have g1 := HWB4.out.c1
              by_cases hl0 : gl.length = 0
              · have hlf : ¬ ((0 : Int) < (gl.length : Int)) := by omega
                clear hl0
                go_upto_region 37 with fail
                clear g1 hlf
                obtain ⟨q0, q1, q2, q3, q4, q5, q6⟩ := res_facts HWR0.out HWB4.out.cu.ch hcz
                have g0 := HWB4.out.c0
                have g1 := HWB4.out.c1
                have g2 := HWB4.out.c2
                have gz := HWB4.out.gz
                obtain ⟨hA, hB⟩ := maze_end HWB4.out HCR.out (r := w.heap.size) (by rw [HS0.out]; omega) hcz (Nat.le_refl _) (by omega) (by (try rw [List.length_set]); omega) (.int .i64 (k : Int)) (.slice (some ⟨bg, 0, none⟩) gl.length cg) (.slice (some ⟨bp, 0, none⟩) pl.length cp)
                have HA := Lib.hid hA
                have HB := Lib.hid hB
                clear hA hB
                go_wp2_with fail
                exact bodyPost_ret (v := .agg #[.int .i64 (k : Int), .slice (some ⟨bg, 0, none⟩) gl.length cg, .slice (some ⟨bp, 0, none⟩) pl.length cp]) (by simp [results, Try.results143, go_sem, q0, q1, q2, q3, q4, q5, q6]) rfl ⟨_, ⟨(k : Int), gl, pl⟩, rfl, HA.out, by dsimp only; omega, by dsimp only; (try rw [List.length_set]); omega, (by dsimp only; omega), HB.out.mono (by omega)⟩
              · have hlf : (0 : Int) < (gl.length : Int) := by omega
                have hlN : 0 < gl.length := by omega
                obtain ⟨y0, y1, y2, d0, d1, d2⟩ := HWB4.out.three hlN
                have gz := HWB4.out.gz
                have bz : bg < w4.heap.size := Own.block_lt HWB4.out.rg rfl
                have wz := HWB4.out.cu.ch.size
                clear hl0
                go_upto_region 34 with fail
                go_region_law ((refine step_append_lies _ (by rfl) _ _ _ (by rfl) wr0.heap.size 39 s0 (.agg #[.int .i64 0, .int .i64 0, .int .i64 0]) 3 24 Try.underlying24 si sz0 sz1 sz2 rfl (by decide) _ _ _ (by rfl) ((HWB4.out.alloc _).drew.rg) ⟨w4.heap.size, 0, none⟩ 1 1 (encT (y0, y1, y2)) (by rfl) (by rfl) (fun j u hu => threeNew w4 _ _ _ _ j u hu) (by intro u hu; simp [encT] at hu; rcases hu with rfl | rfl | rfl <;> rfl) (by omega) (by unfold maxLen; omega) (by omega) (by simp; omega) (w4.heap.size + 1) (by simp) ?_; intro g9 cp9 w9 hown9 hgrow9 hat9 hlt9; obtain ⟨f1, f2, f3⟩ := (HWB4.out.alloc (.cells #[.int .i64 y0, .int .i64 y1, .int .i64 y2] 39)).drew.far1 hgrow9; have HWB9 := Lib.hid ((HWB4.out.alloc (.cells #[.int .i64 y0, .int .i64 y1, .int .i64 y2] 39)).drew.push4 hown9 hgrow9 (by rcases hat9 with h | h; (left; rw [h]; rfl); (right; rw [h]; simp [Value.ownBlock]))); clear hown9 hgrow9 hat9))
                all_goals
                  clear g1 hlf d0 d1 d2 f1 f2 f3 hlt9 bz gz
                  go_upto_region 37 with fail
                  obtain ⟨gl9, hl9, hc9⟩ : ∃ gl9 : List D3, gl9.length = gl.length + 1 ∧ c3 gl9 = c3 gl ++ encT (y0, y1, y2) := ⟨gl ++ [(y0, y1, y2)], by simp, c3_append _ _⟩
                  rw [← hc9, ← hl9] at HWB9
                  rw [← hl9]
                  have hgl18 : gl9.length ≤ 18 := by omega
                  obtain ⟨w8, hw8⟩ : ∃ w8, w8 = w9.setCell ⟨g, 1, none⟩ (.slice (some ⟨g9, 0, none⟩) gl9.length cp9) := ⟨_, rfl⟩
                  rw [← hw8] at HWB9 ⊢
                  clear hw8 hl9 hc9 hlN HWB4
                  obtain ⟨q0, q1, q2, q3, q4, q5, q6⟩ := res_facts HWR0.out HWB9.out.cu.ch hcz
                  have g0 := HWB9.out.c0
                  have g1 := HWB9.out.c1
                  have g2 := HWB9.out.c2
                  have gz := HWB9.out.gz
                  obtain ⟨hA, hB⟩ := maze_end HWB9.out HCR.out (r := w.heap.size) (by rw [HS0.out]; omega) hcz (Nat.le_refl _) (by omega) (by (try rw [List.length_set]); omega) (.int .i64 (k : Int)) (.slice (some ⟨g9, 0, none⟩) gl9.length cp9) (.slice (some ⟨bp, 0, none⟩) pl.length cp)
                  have HA := Lib.hid hA
                  have HB := Lib.hid hB
                  clear hA hB
                  go_wp2_with fail
                  exact bodyPost_ret (v := .agg #[.int .i64 (k : Int), .slice (some ⟨g9, 0, none⟩) gl9.length cp9, .slice (some ⟨bp, 0, none⟩) pl.length cp]) (by simp [results, Try.results143, go_sem, q0, q1, q2, q3, q4, q5, q6]) rfl ⟨_, ⟨(k : Int), gl9, pl⟩, rfl, HA.out, by dsimp only; omega, by dsimp only; (try rw [List.length_set]); omega, (by dsimp only; omega), HB.out.mono (by omega)⟩
            · obtain ⟨q0, q1, q2, q3, q4, q5, q6⟩ := res_facts HWR0.out HWB4.out.cu.ch hcz
              obtain ⟨-, hB⟩ := maze_end HWB4.out HCR.out (r := w.heap.size) (by rw [HS0.out]; omega) hcz (Nat.le_refl _) (by omega) (by omega) (.int .i64 0) (.slice none 0 0) (.slice none 0 0)
              have HB := Lib.hid hB
              clear hB
              go_wp2_with fail
              exact bodyPost_ret (v := .agg #[.int .i64 0, .slice none 0 0, .slice none 0 0]) (by simp [results, Try.results143, go_sem, q0, q1, q2, q3, q4, q5, q6]) rfl ⟨_, ⟨0, [], []⟩, rfl, mazeO_none _ _, by simp, by simp, by simp, HB.out.mono (by omega)⟩
            · have z0 : (zi == 0) = false := by simp; omega
              have z1 : (zi == 1) = false := by simp; omega
              have z2 : (zi == 2) = false := by simp; omega
              have z3 : (zi == 3) = false := by simp; omega
              have z4 : (zi == 4) = false := by simp; omega
              clear h5
              go_upto_region 37 with fail
              clear z0 z1 z2 z3 z4
              obtain ⟨q0, q1, q2, q3, q4, q5, q6⟩ := res_facts HWR0.out HWB4.out.cu.ch hcz
              have g0 := HWB4.out.c0
              have g1 := HWB4.out.c1
              have g2 := HWB4.out.c2
              have gz := HWB4.out.gz
              obtain ⟨hA, hB⟩ := maze_end HWB4.out HCR.out (r := w.heap.size) (by rw [HS0.out]; omega) hcz (Nat.le_refl _) (by omega) (by (try rw [List.length_set]); omega) (.int .i64 (k : Int)) (.slice (some ⟨bg, 0, none⟩) gl.length cg) (.slice (some ⟨bp, 0, none⟩) pl.length cp)
              have HA := Lib.hid hA
              have HB := Lib.hid hB
              clear hA hB
              go_wp2_with fail
              exact bodyPost_ret (v := .agg #[.int .i64 (k : Int), .slice (some ⟨bg, 0, none⟩) gl.length cg, .slice (some ⟨bp, 0, none⟩) pl.length cp]) (by simp [results, Try.results143, go_sem, q0, q1, q2, q3, q4, q5, q6]) rfl ⟨_, ⟨(k : Int), gl, pl⟩, rfl, HA.out, by dsimp only; omega, by dsimp only; (try rw [List.length_set]); omega, (by dsimp only; omega), HB.out.mono (by omega)⟩
end Go.Proofs.Ytcjcgcgcloanpaa

namespace Go.KD
open Go.RowKit
def isLock (ds : List D3) (k : Nat) : Bool := decide (ds[k]!.2.2 ≠ 0)
def locksK (ds : List D3) (n : Nat) : List Int := ((List.range n).filter (isLock ds)).map fun (k : Nat) => (k : Int)
def locksI (m : Mz) : List Int := locksK m.doors m.doors.length
noncomputable def goodB (m : Mz) : Bool := mazeB m && decide ((locksI m).length ≤ 10)
noncomputable def pLocksOf (m : Mz) : List Int × Bool := if goodB m then (locksI m, true) else ([], false)
theorem locksK_yes {ds : List D3} {k : Nat} (h : isLock ds k = true) : locksK ds (k + 1) = locksK ds k ++ [(k : Int)] := by simp [locksK, List.range_succ, List.filter_append, h]
theorem locksK_no {ds : List D3} {k : Nat} (h : isLock ds k = false) : locksK ds (k + 1) = locksK ds k := by simp [locksK, List.range_succ, List.filter_append, h]
theorem locksK_len (ds : List D3) (k : Nat) : (locksK ds k).length ≤ k := by
  unfold locksK
  rw [List.length_map]
  exact Nat.le_trans (List.length_filter_le _ _) (by simp)
theorem pLocksOf_len (m : Mz) : (pLocksOf m).1.length ≤ 1000000 := by
  unfold pLocksOf goodB
  split
  · rename_i h; simp only [Bool.and_eq_true, decide_eq_true_eq] at h; simp only; omega
  · simp
end Go.KD
namespace Go.Proofs.Ytcjcgcgcloanpaa
open Go.RowKit Go.KD
attribute [local go_sem] later_cell later_frozen
set_option maxHeartbeats 1000000 in
theorem l7Locks_c (v : Value) (m : Mz) (w : World) (hm : MzAt w v m) : Calls Try.prog 93 #[v] w fun e w' =>
    ∃ u, e = .returned u ∧ w'.ownsRow w.heap.size 3 1 u (locksI m).length (ints (locksI m)) ∧ Below w.heap.size w w' := by
  obtain ⟨⟨ad, cd, ak, ck, rfl, hd, hk'⟩, nd, nk⟩ := hm
  obtain ⟨i0, ji, jz0, jz1, jz2⟩ := info_parts infoI
  go_enter Try.func93, Try.ntmps93
  go_wp2
  go_loopw [3, 4] (fun v i wr => ∃ k : Nat, k ≤ m.doors.length ∧ i = .int .i64 k ∧ Below (w.heap.size + 1) (w.alloc (.cells #[.int .i64 m.size, .slice ad m.doors.length cd, .slice ak m.keys.length ck] 27)) wr ∧ Hid (wr.ownsRow (w.heap.size + 1) 3 1 v (locksK m.doors k).length (ints (locksK m.doors k)))) (fun _ i _ => m.doors.length - (intOf i).toNat)
  case atStart => exact ⟨0, Nat.zero_le _, rfl, (Below.refl _ _).alloc (by simp) _, by have := World.ownsRow_lit (base := w.heap.size + 1) (e := 3) (size := 1) (w.alloc (.cells #[.int .i64 m.size, .slice ad m.doors.length cd, .slice ak m.keys.length ck] 27)) #[] 0 (by simp) (by unfold maxLen; omega) rfl; simp at this; exact this⟩
  case round =>
    obtain ⟨k, hkl, rfl, hb, HO⟩ := hrel
    obtain ⟨hc, hf, hz⟩ := bcell3 hb
    simp only [World.size_alloc] at hz
    have hz1 : w.heap.size < wr.heap.size := by omega
    have HB : Hid (Below w.heap.size w wr) := (by (repeat (first | exact Below.refl _ _ | apply Below.drew | apply below_drewN | (refine Below.setCell ?_ (by first | omega | (simp; done) | (simp; omega) | (dsimp only; omega)) _) | (refine Below.alloc ?_ (by first | omega | (simp; done) | (simp; omega) | (dsimp only; omega)) _))) : Below w.heap.size w (w.alloc _)).trans (hb.mono (by omega))
    by_cases hlt : k < m.doors.length
    · obtain ⟨b, off, x, y, z, rfl, HX, hbs, e0, e1, e2⟩ := (hd.later HB.out).at k hlt
      have hlen := locksK_len m.doors k
      by_cases hz0 : z = 0
      · have HL : Hid (isLock m.doors k = false) := by show _ = _; unfold isLock; rw [HX.out]; simp [hz0]
        have g : (z != 0) = false := by simp [hz0]
        clear hz0
        go_wp2
        go_roundw
        case rel => exact ⟨k+1, by omega, by go_num, hb, by rw [locksK_no HL.out]; exact HO⟩
        case measure => simp [intOf]; omega
      · have HL : Hid (isLock m.doors k = true) := by show _ = _; unfold isLock; rw [HX.out]; simp [hz0]
        have g : (z != 0) = true := by simpa using hz0
        clear hz0
        obtain ⟨aM, cM, rfl⟩ := own_slice HO.out
        go_wp2_with (at_builtin; refine wpList_append_own _ rfl _ _ 25 rfl (w.heap.size + 1) 3 i0 (.int .i64 0) 1 8 Try.underlying25 ji jz0 jz1 jz2 rfl (by decide) _ _ _ rfl (HO.out.alloc _) ⟨wr.heap.size, 0, none⟩ 1 1 [.int .i64 k] rfl rfl ?_ ?_ ?_ ?_ ?_ ?_; (exact cell_one_new _ _ _); (simp [Value.oneCell']); (unfold maxLen; omega); omega; (simp; omega); intro v' w3 hown' hgrow _)
        go_roundw
        case rel => exact ⟨k+1, by omega, by go_num, (hb.alloc (by omega) _).grown hgrow (by simp; omega) (fun g hg => own_block_lo HO.out hg), by rw [locksK_yes HL.out, ints_snoc, List.length_append]; exact hown'⟩
        case measure => simp [intOf]; omega
    · obtain rfl : k = m.doors.length := by omega
      obtain ⟨aM, cM, rfl⟩ := own_slice HO.out
      go_wp2
      go_ret
      exact ⟨_, rfl, (Own.mono (Own.of HO.out) (by omega) (Nat.le_refl _)).row, HB.out⟩
set_option maxHeartbeats 1000000 in
theorem locks_c (v : Value) (m : Mz) (w : World) (hm : MzAt w v m) : Calls Try.prog 92 #[v] w fun e w' =>
    ∃ u, e = .returned u ∧ w'.ownsRow w.heap.size 3 1 u (locksI m).length (ints (locksI m)) ∧ Below w.heap.size w w' := by
  obtain ⟨⟨ad, cd, ak, ck, rfl, hd, hk'⟩, nd, nk⟩ := hm
  obtain ⟨i0, ji, jz0, jz1, jz2⟩ := info_parts infoI
  go_enter Try.func92, Try.ntmps92
  go_wp2
  go_loopw [3, 10] (fun v i wr => ∃ k : Nat, k ≤ m.doors.length ∧ i = .int .i64 k ∧ Below (w.heap.size + 1) (w.alloc (.cells #[.int .i64 m.size, .slice ad m.doors.length cd, .slice ak m.keys.length ck] 27)) wr ∧ Hid (wr.ownsRow (w.heap.size + 1) 3 1 v (locksK m.doors k).length (ints (locksK m.doors k)))) (fun _ i _ => m.doors.length - (intOf i).toNat)
  case atStart => exact ⟨0, Nat.zero_le _, rfl, (Below.refl _ _).alloc (by simp) _, by have := World.ownsRow_lit (base := w.heap.size + 1) (e := 3) (size := 1) (w.alloc (.cells #[.int .i64 m.size, .slice ad m.doors.length cd, .slice ak m.keys.length ck] 27)) #[] 0 (by simp) (by unfold maxLen; omega) rfl; simp at this; exact this⟩
  case round =>
    obtain ⟨k, hkl, rfl, hb, HO⟩ := hrel
    obtain ⟨hc, hf, hz⟩ := bcell3 hb
    simp only [World.size_alloc] at hz
    have hz1 : w.heap.size < wr.heap.size := by omega
    have HB : Hid (Below w.heap.size w wr) := (by (repeat (first | exact Below.refl _ _ | apply Below.drew | apply below_drewN | (refine Below.setCell ?_ (by first | omega | (simp; done) | (simp; omega) | (dsimp only; omega)) _) | (refine Below.alloc ?_ (by first | omega | (simp; done) | (simp; omega) | (dsimp only; omega)) _))) : Below w.heap.size w (w.alloc _)).trans (hb.mono (by omega))
    by_cases hlt : k < m.doors.length
    · obtain ⟨b, off, x, y, z, rfl, HX, hbs, e0, e1, e2⟩ := (hd.later HB.out).at k hlt
      have hlen := locksK_len m.doors k
      by_cases hz0 : z = 0
      · have HL : Hid (isLock m.doors k = false) := by show _ = _; unfold isLock; rw [HX.out]; simp [hz0]
        have g : (z != 0) = false := by simp [hz0]
        clear hz0
        go_wp2
        go_roundw
        case rel => exact ⟨k+1, by omega, by go_num, hb.alloc (by omega) _, by rw [locksK_no HL.out]; exact HO.out.alloc _⟩
        case measure => simp [intOf]; omega
      · have HL : Hid (isLock m.doors k = true) := by show _ = _; unfold isLock; rw [HX.out]; simp [hz0]
        have g : (z != 0) = true := by simpa using hz0
        clear hz0
        obtain ⟨aM, cM, rfl⟩ := own_slice HO.out
        go_wp2_with (at_builtin; refine wpList_append_own _ rfl _ _ 25 rfl (w.heap.size + 1) 3 i0 (.int .i64 0) 1 8 Try.underlying25 ji jz0 jz1 jz2 rfl (by decide) _ _ _ rfl ((HO.out.alloc _).alloc _) ⟨wr.heap.size + 1, 0, none⟩ 1 1 [.int .i64 k] rfl rfl ?_ ?_ ?_ ?_ ?_ ?_; (intro j u hu; have := cell_one_new (wr.alloc (.cells #[.int .i64 x, .int .i64 y, .int .i64 z] 39)) (.int .i64 k) 3 j u hu; simpa using this); (simp [Value.oneCell']); (unfold maxLen; omega); omega; (simp; omega); intro v' w3 hown' hgrow _)
        go_roundw
        case rel => exact ⟨k+1, by omega, by go_num, ((hb.alloc (by omega) _).alloc (by simp; omega) _).grown hgrow (by simp; omega) (fun g hg => own_block_lo HO.out hg), by rw [locksK_yes HL.out, ints_snoc, List.length_append]; exact hown'⟩
        case measure => simp [intOf]; omega
    · obtain rfl : k = m.doors.length := by omega
      obtain ⟨aM, cM, rfl⟩ := own_slice HO.out
      go_wp2
      go_ret
      exact ⟨_, rfl, (Own.mono (Own.of HO.out) (by omega) (Nat.le_refl _)).row, HB.out⟩
theorem l7Good_c (v : Value) (m : Mz) (w : World) (hm : MzAt w v m) : Calls Try.prog 74 #[v] w fun e w' => e = .returned (.bool (goodB m)) ∧ Below w.heap.size w w' := by
  have hM := hm
  obtain ⟨⟨ad, cd, ak, ck, rfl, hd, hk'⟩, nd, nk⟩ := hM
  cases b1 : mazeB m
  · have H : Hid (false = goodB m) := by show _ = _; simp [goodB, b1]
    go_enter Try.func74, Try.ntmps74
    go_wp2_with (go_at_call 112; refine (l2Maze_c _ m _ (hm.later (by (repeat (first | exact Below.refl _ _ | apply Below.drew | apply below_drewN | (refine Below.setCell ?_ (by first | omega | (simp; done) | (simp; omega) | (dsimp only; omega)) _) | (refine Below.alloc ?_ (by first | omega | (simp; done) | (simp; omega) | (dsimp only; omega)) _)))))).mono ?_; rintro e w1 ⟨rfl, hb1⟩)
    go_ret
    exact ⟨ret_bool H.out, below_then (by (repeat (first | exact Below.refl _ _ | apply Below.drew | apply below_drewN | (refine Below.setCell ?_ (by first | omega | (simp; done) | (simp; omega) | (dsimp only; omega)) _) | (refine Below.alloc ?_ (by first | omega | (simp; done) | (simp; omega) | (dsimp only; omega)) _)))) hb1⟩
  · have H : Hid (decide ((locksI m).length ≤ 10) = goodB m) := by show _ = _; simp [goodB, b1]
    have hl := locksK_len m.doors m.doors.length
    go_enter Try.func74, Try.ntmps74
    go_wp2_with (first | (go_at_call 112; refine (l2Maze_c _ m _ (hm.later (by (repeat (first | exact Below.refl _ _ | apply Below.drew | apply below_drewN | (refine Below.setCell ?_ (by first | omega | (simp; done) | (simp; omega) | (dsimp only; omega)) _) | (refine Below.alloc ?_ (by first | omega | (simp; done) | (simp; omega) | (dsimp only; omega)) _)))))).mono ?_; rintro e w1 ⟨rfl, hb1⟩; obtain ⟨hc1, hf1, hz1⟩ := bcell3 hb1; have HB1 : Hid (Below w.heap.size w w1) := below_then (by (repeat (first | exact Below.refl _ _ | apply Below.drew | apply below_drewN | (refine Below.setCell ?_ (by first | omega | (simp; done) | (simp; omega) | (dsimp only; omega)) _) | (refine Below.alloc ?_ (by first | omega | (simp; done) | (simp; omega) | (dsimp only; omega)) _)))) hb1) | (go_at_call 93; refine (l7Locks_c _ m _ (hm.later HB1.out)).mono ?_; rintro e w2 ⟨u2, rfl, ho2, hb2⟩; obtain ⟨a2, c2, rfl⟩ := own_slice ho2; have HO2 := Lib.hid ho2; clear ho2))
    go_ret
    exact ⟨ret_bool (by rw [← H.out]; rw [Bool.eq_iff_iff]; simp; omega), below_then HB1.out hb2⟩
theorem isSpent_c (v : Value) (m : Mz) (w : World) (hm : MzAt w v m) : Calls Try.prog 72 #[v] w fun e w' => e = .returned (.bool (goodB m)) ∧ Below w.heap.size w w' := by
  have hM := hm
  obtain ⟨⟨ad, cd, ak, ck, rfl, hd, hk'⟩, nd, nk⟩ := hM
  cases b1 : mazeB m
  · have H : Hid (false = goodB m) := by show _ = _; simp [goodB, b1]
    go_enter Try.func72, Try.ntmps72
    go_wp2_with (go_at_call 110; refine (isMaze_c _ m _ (hm.later (by (repeat (first | exact Below.refl _ _ | apply Below.drew | apply below_drewN | (refine Below.setCell ?_ (by first | omega | (simp; done) | (simp; omega) | (dsimp only; omega)) _) | (refine Below.alloc ?_ (by first | omega | (simp; done) | (simp; omega) | (dsimp only; omega)) _)))))).mono ?_; rintro e w1 ⟨rfl, hb1⟩)
    go_ret
    exact ⟨ret_bool H.out, below_then (by (repeat (first | exact Below.refl _ _ | apply Below.drew | apply below_drewN | (refine Below.setCell ?_ (by first | omega | (simp; done) | (simp; omega) | (dsimp only; omega)) _) | (refine Below.alloc ?_ (by first | omega | (simp; done) | (simp; omega) | (dsimp only; omega)) _)))) hb1⟩
  · have H : Hid (decide ((locksI m).length ≤ 10) = goodB m) := by show _ = _; simp [goodB, b1]
    have hl := locksK_len m.doors m.doors.length
    go_enter Try.func72, Try.ntmps72
    go_wp2_with (first | (go_at_call 110; refine (isMaze_c _ m _ (hm.later (by (repeat (first | exact Below.refl _ _ | apply Below.drew | apply below_drewN | (refine Below.setCell ?_ (by first | omega | (simp; done) | (simp; omega) | (dsimp only; omega)) _) | (refine Below.alloc ?_ (by first | omega | (simp; done) | (simp; omega) | (dsimp only; omega)) _)))))).mono ?_; rintro e w1 ⟨rfl, hb1⟩; obtain ⟨hc1, hf1, hz1⟩ := bcell3 hb1; have HB1 : Hid (Below w.heap.size w w1) := below_then (by (repeat (first | exact Below.refl _ _ | apply Below.drew | apply below_drewN | (refine Below.setCell ?_ (by first | omega | (simp; done) | (simp; omega) | (dsimp only; omega)) _) | (refine Below.alloc ?_ (by first | omega | (simp; done) | (simp; omega) | (dsimp only; omega)) _)))) hb1) | (go_at_call 92; refine (locks_c _ m _ (hm.later HB1.out)).mono ?_; rintro e w2 ⟨u2, rfl, ho2, hb2⟩; obtain ⟨a2, c2, rfl⟩ := own_slice ho2; have HO2 := Lib.hid ho2; clear ho2))
    go_ret
    exact ⟨ret_bool (by rw [← H.out]; rw [Bool.eq_iff_iff]; simp; omega), below_then HB1.out hb2⟩
theorem specLocksOf_c (v : Value) (m : Mz) (w : World) (R : List Int) (b : Bool) (hp : pLocksOf m = (R, b)) (hm : MzAt w v m) : Calls Try.prog 22 #[v] w fun e w' => ∃ aw cw, e = .returned (.tuple #[.slice aw R.length cw, .bool b]) ∧ IC w' aw R ∧ Below w.heap.size w w' := by
  have hM := hm
  obtain ⟨⟨ad, cd, ak, ck, rfl, hd, hk'⟩, nd, nk⟩ := hM
  cases b1 : goodB m
  · simp only [pLocksOf, b1] at hp
    cases hp
    go_enter Try.func22, Try.ntmps22
    go_wp2_with (go_at_call 74; refine (l7Good_c _ m _ (hm.later (by (repeat (first | exact Below.refl _ _ | apply Below.drew | apply below_drewN | (refine Below.setCell ?_ (by first | omega | (simp; done) | (simp; omega) | (dsimp only; omega)) _) | (refine Below.alloc ?_ (by first | omega | (simp; done) | (simp; omega) | (dsimp only; omega)) _)))))).mono ?_; rintro e w1 ⟨rfl, hb1⟩; have HB1 : Hid (Below w.heap.size w w1) := below_then (by (repeat (first | exact Below.refl _ _ | apply Below.drew | apply below_drewN | (refine Below.setCell ?_ (by first | omega | (simp; done) | (simp; omega) | (dsimp only; omega)) _) | (refine Below.alloc ?_ (by first | omega | (simp; done) | (simp; omega) | (dsimp only; omega)) _)))) hb1)
    have HBF := Lib.hid (HB1.out.alloc HB1.out.size (.cells #[] 3))
    go_ret2
    exact ⟨_, _, rfl, fun k hk => by simp at hk, HBF.out⟩
  · simp only [pLocksOf, b1, if_true] at hp
    cases hp
    have hl := locksK_len m.doors m.doors.length
    go_enter Try.func22, Try.ntmps22
    go_wp2_with (first | (go_at_call 74; refine (l7Good_c _ m _ (hm.later (by (repeat (first | exact Below.refl _ _ | apply Below.drew | apply below_drewN | (refine Below.setCell ?_ (by first | omega | (simp; done) | (simp; omega) | (dsimp only; omega)) _) | (refine Below.alloc ?_ (by first | omega | (simp; done) | (simp; omega) | (dsimp only; omega)) _)))))).mono ?_; rintro e w1 ⟨rfl, hb1⟩; obtain ⟨hc1, hf1, hz1⟩ := bcell3 hb1; have HB1 : Hid (Below w.heap.size w w1) := below_then (by (repeat (first | exact Below.refl _ _ | apply Below.drew | apply below_drewN | (refine Below.setCell ?_ (by first | omega | (simp; done) | (simp; omega) | (dsimp only; omega)) _) | (refine Below.alloc ?_ (by first | omega | (simp; done) | (simp; omega) | (dsimp only; omega)) _)))) hb1) | (go_at_call 93; refine (l7Locks_c _ m _ (hm.later HB1.out)).mono ?_; rintro e w2 ⟨u2, rfl, ho2, hb2⟩; obtain ⟨a2, c2, rfl⟩ := own_slice ho2; have HO2 := Lib.hid ho2; clear ho2))
    go_ret2
    exact ⟨_, _, rfl, ic_of (Own.of HO2.out), below_then HB1.out hb2⟩
theorem implLocksOf_c (v : Value) (m : Mz) (w : World) (R : List Int) (b : Bool) (hp : pLocksOf m = (R, b)) (hm : MzAt w v m) : Calls Try.prog 21 #[v] w fun e w' => ∃ u, e = .returned (.tuple #[u, .bool b]) ∧ w'.ownsRow w.heap.size 3 1 u R.length (ints R) ∧ Below w.heap.size w w' := by
  have hM := hm
  obtain ⟨⟨ad, cd, ak, ck, rfl, hd, hk'⟩, nd, nk⟩ := hM
  cases b1 : goodB m
  · simp only [pLocksOf, b1] at hp
    cases hp
    go_enter Try.func21, Try.ntmps21
    go_wp2_with (go_at_call 72; refine (isSpent_c _ m _ (hm.later (by (repeat (first | exact Below.refl _ _ | apply Below.drew | apply below_drewN | (refine Below.setCell ?_ (by first | omega | (simp; done) | (simp; omega) | (dsimp only; omega)) _) | (refine Below.alloc ?_ (by first | omega | (simp; done) | (simp; omega) | (dsimp only; omega)) _)))))).mono ?_; rintro e w1 ⟨rfl, hb1⟩; have HB1 : Hid (Below w.heap.size w w1) := below_then (by (repeat (first | exact Below.refl _ _ | apply Below.drew | apply below_drewN | (refine Below.setCell ?_ (by first | omega | (simp; done) | (simp; omega) | (dsimp only; omega)) _) | (refine Below.alloc ?_ (by first | omega | (simp; done) | (simp; omega) | (dsimp only; omega)) _)))) hb1)
    have HBF := HB1
    go_ret2
    exact ⟨_, rfl, ⟨rfl, .inl ⟨rfl, rfl⟩⟩, HBF.out⟩
  · simp only [pLocksOf, b1, if_true] at hp
    cases hp
    have hl := locksK_len m.doors m.doors.length
    go_enter Try.func21, Try.ntmps21
    go_wp2_with (first | (go_at_call 72; refine (isSpent_c _ m _ (hm.later (by (repeat (first | exact Below.refl _ _ | apply Below.drew | apply below_drewN | (refine Below.setCell ?_ (by first | omega | (simp; done) | (simp; omega) | (dsimp only; omega)) _) | (refine Below.alloc ?_ (by first | omega | (simp; done) | (simp; omega) | (dsimp only; omega)) _)))))).mono ?_; rintro e w1 ⟨rfl, hb1⟩; obtain ⟨hc1, hf1, hz1⟩ := bcell3 hb1; have HB1 : Hid (Below w.heap.size w w1) := below_then (by (repeat (first | exact Below.refl _ _ | apply Below.drew | apply below_drewN | (refine Below.setCell ?_ (by first | omega | (simp; done) | (simp; omega) | (dsimp only; omega)) _) | (refine Below.alloc ?_ (by first | omega | (simp; done) | (simp; omega) | (dsimp only; omega)) _)))) hb1) | (go_at_call 92; refine (locks_c _ m _ (hm.later HB1.out)).mono ?_; rintro e w2 ⟨u2, rfl, ho2, hb2⟩; obtain ⟨a2, c2, rfl⟩ := own_slice ho2; have HO2 := Lib.hid ho2; clear ho2))
    go_ret2
    exact ⟨_, rfl, (Own.mono (Own.of HO2.out) HB1.out.size (Nat.le_refl _)).row, below_then HB1.out hb2⟩
end Go.Proofs.Ytcjcgcgcloanpaa
