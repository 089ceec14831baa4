/- Contract of impl.visits: a search over the visits of works. -/
import Derived.Test.YtldogbahbjompaaKdActs3
import Derived.Test.YtldogbahbjompaaKdWg
import Derived.Test.YtldogbahbjompaaKdDo
import Derived.Test.YtldogbahbjompaaKdChg
import Derived.Test.YtldogbahbjompaaKdGrid
import Derived.Deep.DeepCutAuto
import Derived.Deep.RegionHeld3
import Derived.Deep.LoopGhost
set_option linter.unusedVariables false
set_option linter.unusedSimpArgs false
namespace Go.KD
open Go.RowKit
def zer : List Int := List.replicate 768 0
theorem zer_len : zer.length = 768 := by unfold zer; rw [List.length_replicate]
/-- The first n numbers are -1. -/
def iniK (n : Nat) : List Int := List.replicate n (-1) ++ List.replicate (768 - n) 0
theorem iniK_0 : iniK 0 = zer := by unfold iniK zer; rw [List.replicate_zero, List.nil_append]
theorem iniK_all : iniK 768 = gridL [] := by rw [gridL_nil]; unfold iniK; rw [Nat.sub_self, List.replicate_zero, List.append_nil]
theorem iniK_next {n : Nat} (h : n < 768) : (iniK n).set n (-1) = iniK (n + 1) := by
  unfold iniK
  obtain ⟨d, hd⟩ : ∃ d, 768 - n = d + 1 := ⟨767 - n, by omega⟩
  have e : 768 - (n + 1) = d := by omega
  rw [e, hd, List.set_append_right _ _ (by rw [List.length_replicate]; exact Nat.le_refl _), List.length_replicate, Nat.sub_self, List.replicate_succ, List.set_cons_zero, List.replicate_succ', List.append_assoc]
  rfl
/-- The memory of the search: the box of the works, the result, the grid. -/
structure VW (wb w : World) (bx : Obj) (W : World) (G : List Int) : Prop where
  bel : Below wb.heap.size w W
  sz : w.heap.size + 3 ≤ W.heap.size
  bxo : W.heap[w.heap.size]? = some bx
  res : GrA W (w.heap.size + 1) zer
  out : GrA W (w.heap.size + 2) G
variable {wb w W W' : World} {bx : Obj} {G : List Int}
theorem VW.later (h : VW wb w bx W G) (hwb : wb.heap.size ≤ w.heap.size) (hb : Below W.heap.size W W') : VW wb w bx W' G :=
  ⟨h.bel.trans (hb.mono (by have := h.sz; omega)), by have := hb.size; have := h.sz; omega, (hb.block _ (by have := h.sz; omega)).trans h.bxo, h.res.later hb, h.out.later hb⟩
theorem VW.grown {r : Nat} (h : VW wb w bx W G) (hwb : wb.heap.size ≤ w.heap.size) (hb : W.grownBy W' (some r)) (hr : wb.heap.size ≤ r) (h0 : r < w.heap.size ∨ w.heap.size + 3 ≤ r) : VW wb w bx W' G :=
  ⟨Below.grown h.bel hb (by have := h.sz; omega) (fun b hb => by cases hb; exact hr), by have := hb.size; have := h.sz; omega, (hb.block _ (by have := h.sz; omega) (by simp; omega)).trans h.bxo, h.res.grown hb (by simp; omega), h.out.grown hb (by simp; omega)⟩
theorem VW.set (h : VW wb w bx W G) (hwb : wb.heap.size ≤ w.heap.size) (i : Nat) (x : Int) : VW wb w bx (W.setCell ⟨w.heap.size + 2, i, none⟩ (.int .i64 x)) (G.set i x) := by
  have hg := grown_setCell W ⟨w.heap.size + 2, i, none⟩ (.int .i64 x)
  refine ⟨Below.setCell h.bel (by show wb.heap.size ≤ w.heap.size + 2; omega) _, by simpa using h.sz, (hg.block _ (by have := h.sz; omega) (by simp)).trans h.bxo, h.res.grown hg (by simp), h.out.set i x⟩
theorem VW.cells (h : VW wb w bx W G) {v0 v1 v2 : Value} {t : TypeId} (hb : bx = .cells #[v0, v1, v2] t) : W.cell? ⟨w.heap.size, 0, none⟩ = some v0 ∧ W.cell? ⟨w.heap.size, 1, none⟩ = some v1 ∧ W.cell? ⟨w.heap.size, 2, none⟩ = some v2 := by
  have := h.bxo
  rw [hb] at this
  exact ⟨by simp [World.cell?, this], by simp [World.cell?, this], by simp [World.cell?, this]⟩
theorem run_store_grid {P : Program} {g : Nat} (w : World) (l : List Int) (hl : l.length = 768) (ht : w.there g 0 768) : (storeCells ⟨g, 0, none⟩ (ints l)).run P w = .ok () (w.setCells g 0 (ints l)) := by
  have := run_storeCells_cells (P := P) g 0 (ints l) 0 w (fun j hj => by simpa using (ht j (by simpa [hl] using hj)).1) (fun j hj => by simpa using (ht j (by simpa [hl] using hj)).2)
    (fun v hv => by simp only [ints, List.mem_map] at hv; obtain ⟨x, _, rfl⟩ := hv; rfl)
  simpa using this
theorem VW.start (hwb : wb.heap.size ≤ w.heap.size) (t t' : TypeId) : VW wb w bx ((((w.alloc bx).alloc (.cells (ints zer).toArray t)).alloc (.cells (ints zer).toArray t')).setCells (w.heap.size + 2) 0 (ints zer)) zer := by
  obtain ⟨W1, hW1⟩ : ∃ W1, W1 = (w.alloc bx).alloc (.cells (ints zer).toArray t) := ⟨_, rfl⟩
  have z1 : W1.heap.size = w.heap.size + 2 := by rw [hW1]; simp
  have r1 : GrA W1 (w.heap.size + 1) zer := by
    have := GrA.new (w.alloc bx) t zer_len
    rw [← hW1] at this
    simpa using this
  have b1 : W1.heap[w.heap.size]? = some bx := by
    rw [hW1]
    show (Array.push (Array.push w.heap _) _)[w.heap.size]? = _
    rw [Array.getElem?_push_lt (by simp), Array.getElem_push_eq]
  have bel1 : Below wb.heap.size w W1 := by rw [hW1]; exact ((Below.refl _ _).alloc hwb _).alloc (by simp; omega) _
  rw [← hW1]
  have o1 : GrA (W1.alloc (.cells (ints zer).toArray t')) (w.heap.size + 2) zer := by
    have := GrA.new W1 t' zer_len
    rw [z1] at this; exact this
  have hA : Below W1.heap.size W1 (W1.alloc (.cells (ints zer).toArray t')) := (Below.refl _ _).alloc (Nat.le_refl _) _
  have hg := grown_setCells (w.heap.size + 2) (ints zer) 0 (W1.alloc (.cells (ints zer).toArray t'))
  have hsz : (W1.alloc (.cells (ints zer).toArray t')).heap.size = w.heap.size + 3 := by simp [z1]
  refine ⟨Below.grown (bel1.alloc (by omega) _) hg (by omega) (fun b hb => by cases hb; omega), by rw [size_setCells]; omega, ?_, ?_, GrA.of zer_len o1.there o1.lt⟩
  · exact (hg.block _ (by omega) (by simp)).trans ((hA.block _ (by omega)).trans b1)
  · exact (r1.later hA).grown hg (by simp)
theorem src_next {S : List Nat} (hS : S.Nodup) (hl : ∀ s ∈ S, s < 768) {k : Nat} (hk : k < S.length) : (gridL ((S.take k).map fun s => ((s, 0) : Bn))).set S[k]! 0 = gridL ((S.take (k + 1)).map fun s => ((s, 0) : Bn)) := by
  have hm : S[k]! ∈ S := by rw [getElem!_pos S k hk]; exact List.getElem_mem hk
  have hn : ((S.take k).map fun s => ((s, 0) : Bn)).any (fun e => e.1 == S[k]!) = false := by
    rw [List.any_eq_false]
    intro e he
    obtain ⟨s, hs, rfl⟩ := List.mem_map.1 he
    intro h
    have h : s = S[k]! := by simpa using h
    obtain ⟨j, hj, hje⟩ := List.mem_iff_getElem.1 hs
    have hjk : j < k := by simp at hj; omega
    rw [List.getElem_take] at hje
    have h2 : S[j] = S[k] := by rw [hje, h, getElem!_pos S k hk]
    have := (List.getElem_inj hS).1 h2
    omega
  have := gridL_snoc (c := 0) hn (hl _ hm)
  rw [bTake hk, List.map_append]
  exact this
theorem prN_id (x l : Nat) (hl : l < 64) : prN (x * 64 + l) = ((x : Int), (l : Int)) := by
  unfold prN
  rw [show (x * 64 + l) / 64 = x from by omega, show (x * 64 + l) % 64 = l from by omega]
theorem id_of (s : Nat) : ∃ x l, s = x * 64 + l ∧ l < 64 ∧ s / 64 = x := ⟨s / 64, s % 64, by omega, Nat.mod_lt _ (by omega), rfl⟩
theorem prs_at {E : List Bn} {i : Nat} (h : i < E.length) : prs (E.drop i) = prN (E[i]!).1 :: prs (E.drop (i + 1)) := by
  unfold prs
  rw [List.drop_eq_getElem_cons h, List.map_cons, getElem!_pos E i h]
theorem bfE_cost {nx : Nat → List Nat} {E0 : List Bn} (h0 : ∀ e ∈ E0, e.2 = 0) : ∀ i, ∀ e ∈ bfE nx E0 i, e.2 ≤ i
  | 0, e, he => by have := h0 e he; omega
  | i + 1, e, he => by
    have ih := bfE_cost h0 (nx := nx) i
    change e ∈ (if i < (bfE nx E0 i).length then bExp nx (bfE nx E0 i) i else bfE nx E0 i) at he
    split at he
    · rename_i hi
      have hc := ih _ (bMem hi)
      have : ∀ (l : List Nat) (E : List Bn), (∀ e ∈ E, e.2 ≤ i + 1) → ∀ e ∈ l.foldl (bAdd (((bfE nx E0 i)[i]!).2 + 1)) E, e.2 ≤ i + 1 := by
        intro l
        induction l with
        | nil => intro E h; exact h
        | cons y l ihl =>
          intro E h
          refine ihl _ ?_
          unfold bAdd
          split
          · exact h
          · intro e he
            rw [List.mem_append] at he
            rcases he with he | he
            · exact h e he
            · rw [List.mem_singleton] at he; rw [he]; show _ + 1 ≤ _; omega
      exact this _ _ (fun e he => Nat.le_succ_of_le (ih e he)) e he
    · exact Nat.le_succ_of_le (ih e he)
theorem bf_bound {m : Wk} (ok : WkOk m) {S : List Nat} {E : List Bn} {i j : Nat} (h : BOk (nxW m) S E i j) (hs : ∀ s ∈ S, ((s / 64 : Nat) : Int) < m.size) : ∀ e ∈ E, ((e.1 / 64 : Nat) : Int) < m.size := by
  intro e he
  obtain ⟨s, hss, hw⟩ := h.sd e he
  generalize e.2 = k at hw
  cases k with
  | zero => have hw : s = e.1 := hw; rw [← hw]; exact hs s hss
  | succ k => obtain ⟨z, -, hz⟩ := hw; exact nxW_bound ok hz
theorem nxW_at {m : Wk} {x l : Nat} (hx : (x : Int) < m.size) (hl : l < 64) : nxW m (x * 64 + l) = (actsL m (x : Nat) (l : Nat)).map (fun a => wSt m x l a) := by
  unfold nxW
  rw [show (x * 64 + l) / 64 = x from by omega, show (x * 64 + l) % 64 = l from by omega, if_pos hx]
theorem actsL_le (m : Wk) (x l : Int) : (actsL m x l).length ≤ 41 := by
  unfold actsL
  rw [List.length_append]
  have h1 : (mem (nbK m.gates x l m.gates.length)).length ≤ 40 := by unfold mem memN; rw [List.length_map]; exact Nat.le_trans (List.length_filter_le _ _) (by simp)
  split
  · simp; omega
  · simp; omega
theorem prs_len (E : List Bn) (i : Nat) : (prs (E.drop i)).length = E.length - i := by simp [prs]
theorem prs_snoc {E : List Bn} {i y c : Nat} (h : i ≤ E.length) : prs ((E ++ [(y, c)]).drop i) = prs (E.drop i) ++ [prN y] := by
  unfold prs
  rw [List.drop_append_of_le_length h, List.map_append]; rfl
end Go.KD
namespace Go.Proofs.Ytldogbahbjompaa
open Go.RowKit Go.KD
attribute [local go_sem] later_cell later_frozen
theorem zeroGrid : (∀ w, (zeroValue 75).run Try.prog w = .ok (.agg (ints zer).toArray) w) ∧ (Try.prog.info? 75).map (·.size) = some 768 := zero_of_info (by kernel_rfl)
theorem infoA2 : (Try.prog.info? 76).map (fun i => (i.zero, i.size, i.bytes)) = some (some (.agg #[.int .i64 0, .int .i64 0]), 2, 16) := by kernel_rfl
set_option maxRecDepth 100000 in
set_option maxHeartbeats 16000000 in
theorem visits_c (m : Wk) (ad ak : Option Addr) (cd ck : Nat) (S : List Nat) (g off cap : Nat) (wb w : World) (hm : WkAt wb (.agg #[.int .i64 m.size, .slice ad m.gates.length cd, .slice ak m.pulls.length ck]) m) (ok : WkOk m) (hbw : Below wb.heap.size wb w) (hS : S.Nodup) (hsz : ∀ s ∈ S, ((s / 64 : Nat) : Int) < m.size) (hq : Q2 w g off cap (S.map prN)) (hg : wb.heap.size ≤ g) :
    Calls Try.prog 60 #[(.agg #[.int .i64 m.size, .slice ad m.gates.length cd, .slice ak m.pulls.length ck]), .slice (some ⟨g, off, none⟩) S.length cap] w fun e w' => e = .returned (.agg (ints (gridL (bfF (nxW m) (S.map fun s => ((s, 0) : Bn))))).toArray) ∧ Below wb.heap.size w w' := by
  obtain ⟨i2, ji, jz0, jz1, jz2⟩ := info_parts infoA2
  obtain ⟨E0, hE0⟩ : ∃ E0 : List Bn, E0 = S.map fun s => ((s, 0) : Bn) := ⟨_, rfl⟩
  rw [← hE0]
  have HE0 := Lib.hid hE0
  obtain ⟨FF, hFF⟩ : ∃ FF, FF = bfF (nxW m) E0 := ⟨_, rfl⟩
  rw [← hFF]
  have HFFF := Lib.hid hFF
  clear hE0 hFF
  have HZG := Lib.hid zeroGrid
  have hwb := hbw.size
  have hgs := hq.gs
  obtain ⟨bx, hbx⟩ : ∃ bx, bx = Obj.cells #[.int .i64 m.size, .slice ad m.gates.length cd, .slice ak m.pulls.length ck] 40 := ⟨_, rfl⟩
  have HBX := Lib.hid hbx
  have HQ0 := Lib.hid hq
  have HV0 : Hid (VW wb w bx ((((w.alloc bx).alloc (.cells (ints zer).toArray 75)).alloc (.cells (ints zer).toArray 75)).setCells (w.heap.size + 2) 0 (ints zer)) zer) := VW.start hwb _ _
  have HQ1 : Hid (Q2 ((((w.alloc bx).alloc (.cells (ints zer).toArray 75)).alloc (.cells (ints zer).toArray 75)).setCells (w.heap.size + 2) 0 (ints zer)) g off cap (S.map prN)) := by
    refine Q2.grown ?_ (grown_setCells _ _ _ _) (by simp; omega)
    exact hq.later (((((Below.refl _ _).alloc (Nat.le_refl _) _).alloc (by simp) _).alloc (by simp; omega) _))
  have HTH : Hid ((((w.alloc bx).alloc (.cells (ints zer).toArray 75)).alloc (.cells (ints zer).toArray 75)).there (w.heap.size + 2) 0 768) := by
    have := (GrA.new ((w.alloc bx).alloc (.cells (ints zer).toArray 75)) 75 zer_len).there
    have e : ((w.alloc bx).alloc (.cells (ints zer).toArray 75)).heap.size = w.heap.size + 2 := by simp
    rw [e] at this
    exact this
  have hst : (storeCells ⟨w.heap.size + 1 + 1, 0, none⟩ (ints zer)).run Try.prog (((w.alloc bx).alloc (.cells (ints zer).toArray 75)).alloc (.cells (ints zer).toArray 75)) = .ok () ((((w.alloc bx).alloc (.cells (ints zer).toArray 75)).alloc (.cells (ints zer).toArray 75)).setCells (w.heap.size + 2) 0 (ints zer)) := run_store_grid _ _ zer_len HTH.out
  obtain ⟨W0, hW0⟩ : ∃ W0, W0 = ((((w.alloc bx).alloc (.cells (ints zer).toArray 75)).alloc (.cells (ints zer).toArray 75)).setCells (w.heap.size + 2) 0 (ints zer)) := ⟨_, rfl⟩
  rw [← hW0] at hst HV0 HQ1
  rw [hbx] at hst
  clear hbx hq hW0
  go_enter Try.func60, Try.ntmps60
  go_wp2_with (first
    | (refine wpList_alloc_z _ rfl 75 rfl _ HZG.out.1 ?_)
    | (refine wpList_build_z _ rfl 75 rfl 12 73 Try.underlying75 64 (by kernel_rfl) _ HZG.out.1 ?_))
  go_loopw [18] (fun i wr => ∃ k : Nat, i = .int .i64 k ∧ k ≤ 12 ∧ Hid (VW wb w bx wr (iniK (k * 64))) ∧ Hid (Q2 wr g off cap (S.map prN))) (fun i _ => 12 - (intOf i).toNat)
  case atStart => exact ⟨0, rfl, by omega, by rw [Nat.zero_mul, iniK_0]; exact HV0, HQ1⟩
  case round =>
    clear HV0 HQ1 hst HTH
    obtain ⟨wo, rfl⟩ : ∃ wo : World, wo = wr := ⟨_, rfl⟩
    obtain ⟨k, rfl, hk, HV, HQ⟩ := hrel
    by_cases hlt : k < 12
    · have hkI : (k : Int) < 12 := by omega
      go_wp2
      go_loopw [21] (fun i wr => ∃ j : Nat, i = .int .i64 j ∧ j ≤ 64 ∧ Hid (VW wb w bx wr (iniK (k * 64 + j))) ∧ Hid (Q2 wr g off cap (S.map prN))) (fun i _ => 64 - (intOf i).toNat)
      case atStart => exact ⟨0, rfl, by omega, HV, HQ⟩
      case round =>
        clear HV HQ
        obtain ⟨wi, rfl⟩ : ∃ wi : World, wi = wr := ⟨_, rfl⟩
        obtain ⟨j, rfl, hj, HV, HQ⟩ := hrel
        by_cases hlt2 : j < 64
        · have hjI : (j : Int) < 64 := by omega
          have c0 := HV.out.out.cell (k * 64 + j) (by omega)
          have f0 := HV.out.out.fr (k * 64 + j) (by omega)
          go_wp2
          go_roundw
          case rel => exact ⟨j + 1, by go_num, by omega, by have := HV.out.set hwb (k * 64 + j) (-1); rw [iniK_next (by omega)] at this; exact this, HQ.out.grown (grown_setCell _ _ _) (by simp; omega)⟩
          case measure => simp [intOf]; omega
        · obtain rfl : j = 64 := by omega
          go_wp2
          go_roundw
          case rel => exact ⟨k + 1, by go_num, by omega, by rw [Nat.succ_mul]; exact HV, HQ⟩
          case measure => simp [intOf]; omega
    · obtain rfl : k = 12 := by omega
      have HV1 : Hid (VW wb w bx wo (gridL ((S.take 0).map fun s => ((s, 0) : Bn)))) := by have := HV.out; rw [show 12 * 64 = 768 from rfl, iniK_all] at this; exact this
      have HLT : Hid (∀ s ∈ S, s < 768) := fun s hs => by have := hsz s hs; have := ok.s2; omega
      have HSN := Lib.hid hS
      have hSl : S.length ≤ 768 := bLt_of hS HLT.out
      have HLS := Lib.hid hsz
      have OK := Lib.hid ok
      clear HV hS hsz ok hlt
      rw [show ((12 : Nat) : Int) = 12 from rfl]
      go_wp2
      go_loopw [32] (fun i wr => ∃ k : Nat, i = .int .i64 k ∧ k ≤ S.length ∧ Hid (VW wb w bx wr (gridL ((S.take k).map fun s => ((s, 0) : Bn)))) ∧ Hid (Q2 wr g off cap (S.map prN))) (fun i _ => S.length - (intOf i).toNat)
      case atStart => exact ⟨0, rfl, Nat.zero_le _, HV1, HQ⟩
      case round =>
        clear HV1 HQ
        obtain ⟨wo, rfl⟩ : ∃ wo : World, wo = wr := ⟨_, rfl⟩
        obtain ⟨k, rfl, hk, HV, HQ⟩ := hrel
        have hzo := HV.out.sz
        by_cases hlt : k < S.length
        · have hkI : (k : Int) < (S.length : Int) := by omega
          have HSX := Lib.hid (src_next HSN.out HLT.out hlt)
          have hmem : S[k]! ∈ S := by rw [getElem!_pos S k hlt]; exact List.getElem_mem hlt
          have hxs := HLS.out _ hmem
          have hpm : (S.map prN)[k]! = prN S[k]! := by rw [getElem!_pos _ k (by simpa using hlt), getElem!_pos S k hlt]; simp
          have ea := HQ.out.a k (by simpa using hlt)
          have eb := HQ.out.b k (by simpa using hlt)
          obtain ⟨x, l, hs, hl, hx⟩ := id_of S[k]!
          rw [hpm, hs, prN_id x l hl] at ea eb
          rw [← Nat.add_assoc] at eb
          rw [hx] at hxs
          rw [hs] at HSX
          have hx12 : x < 12 := by have := OK.out.s2; omega
          have hxI : (x : Int) < 12 := by omega
          have hlI : (l : Int) < 64 := by omega
          dsimp only at ea eb
          have c0 := HV.out.out.cell (x * 64 + l) (by omega)
          have f0 := HV.out.out.fr (x * 64 + l) (by omega)
          have HSK := Lib.hid hs
          clear hpm hmem hs hx
          obtain ⟨W1, hW1⟩ : ∃ W1, W1 = wo.alloc (.cells #[.int .i64 (x : Int), .int .i64 (l : Int)] 76) := ⟨_, rfl⟩
          have p0 : W1.cell? ⟨wo.heap.size, 0, none⟩ = some (.int .i64 (x : Int)) := by rw [hW1]; simp [go_sem]
          have p1 : W1.cell? ⟨wo.heap.size, 1, none⟩ = some (.int .i64 (l : Int)) := by rw [hW1]; simp [go_sem]
          have hA : Below wo.heap.size wo W1 := by rw [hW1]; exact (Below.refl _ _).alloc (Nat.le_refl _) _
          have c1 := (hA.cell (p := ⟨w.heap.size + 2, x * 64 + l, none⟩) (by show w.heap.size + 2 < _; omega)).trans c0
          have f1 := (hA.frozen (p := ⟨w.heap.size + 2, x * 64 + l, none⟩) (by show w.heap.size + 2 < _; omega)).trans f0
          have HA := Lib.hid hA
          clear hA c0 f0
          go_upto_region 14 with fail
          rw [← hW1]
          clear hW1
          go_region_held3 (fun W => W.cell? ⟨wo.heap.size, 0, none⟩ = some (.int .i64 (x : Int)) ∧ W.cell? ⟨wo.heap.size, 1, none⟩ = some (.int .i64 (l : Int)))
            (first | exact ⟨p0, p1⟩ | (exact ⟨(World.cell?_setCell_other _ _ _ _ (fun h => by have := congrArg Addr.block h; simp at this; omega)).trans p0, (World.cell?_setCell_other _ _ _ _ (fun h => by have := congrArg Addr.block h; simp at this; omega)).trans p1⟩))
            (fail)
          have HV2 : Hid (VW wb w bx W1 (gridL ((S.take k).map fun s => ((s, 0) : Bn)))) := HV.out.later hwb HA.out
          have HV3 := HV2.out.set hwb (x * 64 + l) 0
          rw [HSX.out] at HV3
          have HV4 : Hid (VW wb w bx (W1.setCell ⟨w.heap.size + 2, x * 64 + l, none⟩ (.int .i64 0)).drew (gridL ((S.take (k + 1)).map fun s => ((s, 0) : Bn)))) := HV3.later hwb (Below.refl _ _).drew
          have HQ4 : Hid (Q2 (W1.setCell ⟨w.heap.size + 2, x * 64 + l, none⟩ (.int .i64 0)).drew g off cap (S.map prN)) := ((HQ.out.later HA.out).grown (grown_setCell _ _ _) (by simp; omega)).later (Below.refl _ _).drew
          clear HV3
          go_wp2
          go_roundw
          case rel => exact ⟨k + 1, by go_num, by omega, HV4, HQ4⟩
          case measure => simp [intOf]; omega
        · obtain rfl : k = S.length := by omega
          have hE0 := HE0.out
          have HBO : Hid (∀ i, BOk (nxW m) S (bfE (nxW m) E0 i) i 0) := by rw [hE0]; exact bfE_ok (nxW_lt OK.out) (b_start HSN.out HLT.out)
          have HCO : Hid (∀ i, ∀ e ∈ bfE (nxW m) E0 i, e.2 ≤ i) := bfE_cost (fun e he => by rw [hE0] at he; obtain ⟨s, -, rfl⟩ := List.mem_map.1 he; rfl)
          have HV5 : Hid (VW wb w bx wo (gridL (bfE (nxW m) E0 0))) := by have := HV.out; rw [List.take_length, ← hE0] at this; exact this
          have HQ5 : Hid (Q2 wo g off cap (prs ((bfE (nxW m) E0 0).drop 0))) := by
            have e : prs ((bfE (nxW m) E0 0).drop 0) = S.map prN := by
              show prs E0 = _
              rw [hE0]; unfold prs; rw [List.map_map]; rfl
            rw [e]; exact HQ.out
          have hl0 : S.length = (bfE (nxW m) E0 0).length - 0 := by show _ = E0.length - 0; rw [hE0]; simp
          have HL0 := Lib.hid hl0
          clear HV HQ hl0 hE0
          have HMW : Hid (∀ W, Below wb.heap.size w W → WkAt W (.agg #[.int .i64 m.size, .slice ad m.gates.length cd, .slice ak m.pulls.length ck]) m) := fun W hW => hm.later (hbw.trans hW)
          clear hm
          go_wp2
          go_loopg [10] 768 (fun n t wr => ∃ i g off cap : Nat, n = 768 - i ∧ t = .slice (some ⟨g, off, none⟩) ((bfE (nxW m) E0 i).length - i) cap ∧ i ≤ (bfE (nxW m) E0 i).length ∧ wb.heap.size ≤ g ∧ (g < w.heap.size ∨ w.heap.size + 3 ≤ g) ∧ Hid (VW wb w bx wr (gridL (bfE (nxW m) E0 i))) ∧ Hid (Q2 wr g off cap (prs ((bfE (nxW m) E0 i).drop i))))
          case atStart => exact ⟨0, g, off, cap, rfl, by rw [← HL0.out], Nat.zero_le _, hg, by omega, HV5, HQ5⟩
          case round =>
            clear HV5 HQ5 HL0 HQ0 hgs hg
            obtain ⟨wo, rfl⟩ : ∃ wo : World, wo = wr := ⟨_, rfl⟩
            obtain ⟨i, g, off, cap, hgk, rfl, hi, hg, hgd, HV, HQ⟩ := hrel
            obtain ⟨E, hE⟩ : ∃ E, E = bfE (nxW m) E0 i := ⟨_, rfl⟩
            rw [← hE] at hi HV HQ ⊢
            have HOE : Hid (BOk (nxW m) S E i 0) := by rw [hE]; exact HBO.out i
            have hle := HOE.out.le
            have HGK := Lib.hid hgk
            have HE := Lib.hid hE
            have hcap := HQ.out.lc
            rw [prs_len] at hcap
            have hcm := HQ.out.cm
            unfold maxLen at hcm
            have hzo := HV.out.sz
            have hbelo := HV.out.bel
            have HBEL := Lib.hid hbelo
            clear hgk hE hbelo
            by_cases hlt : i < E.length
            · obtain ⟨x, l, hs, hl, hx⟩ := id_of (E[i]!).1
              have hxs : (x : Int) < m.size := by rw [← hx]; exact bf_bound OK.out HOE.out HLS.out _ (bMem hlt)
              have hx12 : x < 12 := by have := OK.out.s2; omega
              have hqd : prs (E.drop i) = ((x : Int), (l : Int)) :: prs (E.drop (i + 1)) := by rw [prs_at hlt, hs, prN_id x l hl]
              have ea := HQ.out.a 0 (by rw [hqd]; simp)
              have eb := HQ.out.b 0 (by rw [hqd]; simp)
              rw [hqd] at ea eb
              simp only [Nat.zero_mul, Nat.add_zero, Nat.zero_add, List.getElem!_cons_zero] at ea eb
              obtain ⟨q0, q1, q2⟩ := HV.out.cells HBX.out
              have hqI : (0 : Int) < (((E.length - i : Nat)) : Int) := by omega
              obtain ⟨c, hc⟩ : ∃ c, c = (E[i]!).2 := ⟨_, rfl⟩
              have hc768 : c ≤ 768 := by rw [hc]; have := HCO.out i _ (by rw [← HE.out]; exact bMem hlt); omega
              have HC := Lib.hid hc
              have HSE := Lib.hid hs
              have hi768 : i < 768 := by omega
              have HNXW : Hid (nxW m (E[i]!).1 = (actsL m (x : Nat) (l : Nat)).map (fun a => wSt m x l a)) := by show _ = _; rw [hs]; exact nxW_at hxs hl
              obtain ⟨A, hA⟩ : ∃ A, A = actsL m (x : Nat) (l : Nat) := ⟨_, rfl⟩
              rw [← hA] at HNXW
              have HAA := Lib.hid hA
              have hAl : A.length ≤ 41 := by rw [hA]; exact actsL_le m x l
              have hxI : (x : Int) < 12 := by omega
              have hlI : (l : Int) < 64 := by omega
              clear hqd hs hc hx hA
              go_upto_region 19 with fail
              go_region_held3 (fun W => W.cell? ⟨g, off, none⟩ = some (.int .i64 (x : Int)) ∧ W.cell? ⟨g, off + 1, none⟩ = some (.int .i64 (l : Int)))
                (exact ⟨ea, eb⟩)
                (fail)
              have HV1 : Hid (VW wb w bx wo.drew (gridL E)) := HV.out.later hwb (Below.refl _ _).drew
              have HQ1 : Hid (Q2 wo.drew g off cap (prs (E.drop i))) := HQ.out.later (Below.refl _ _).drew
              have hgo := HQ.out.gs
              clear HV HQ ea eb
              go_wp2_with (go_at_call 54; refine (acts_c _ m x l _ (HMW.out _ HV1.out.bel) OK.out hxs hl).mono ?_; rintro e w2 ⟨u2, rfl, ho2, hb2⟩; rw [← HAA.out] at ho2; obtain ⟨a2, c2, rfl⟩ := own_slice ho2)
              have HO2 : Hid (Own wo.drew.heap.size w2.heap.size w2 3 1 (.slice a2 A.length c2) A.length (ints A)) := Own.of ho2
              have HV2 : Hid (VW wb w bx w2 (gridL E)) := HV1.out.later hwb hb2
              have HQ2 : Hid (Q2 w2 g off cap (prs (E.drop i))) := HQ1.out.later hb2
              have hz2 : wo.heap.size ≤ w2.heap.size := hb2.size
              clear HV1 HQ1 ho2 hb2 q0 q1 q2
              go_loopw [62, 10] (fun jv t wr => ∃ j g off cap : Nat, jv = .int .i64 j ∧ j ≤ A.length ∧ t = .slice (some ⟨g, off, none⟩) ((bExpJ (nxW m) E i j).length - i) cap ∧ wb.heap.size ≤ g ∧ (g < w.heap.size ∨ w.heap.size + 3 ≤ g) ∧ (g < wo.heap.size ∨ w2.heap.size ≤ g) ∧ w2.heap.size ≤ wr.heap.size ∧ Hid (VW wb w bx wr (gridL (bExpJ (nxW m) E i j))) ∧ Hid (Q2 wr g off cap (prs ((bExpJ (nxW m) E i j).drop i))) ∧ Hid (Own wo.heap.size w2.heap.size wr 3 1 (.slice a2 A.length c2) A.length (ints A))) (fun jv _ _ => A.length - (intOf jv).toNat)
              case atStart => exact ⟨0, g, off, cap, rfl, Nat.zero_le _, by simp [bExpJ], hg, hgd, .inl hgo, Nat.le_refl _, by simpa [bExpJ] using HV2, by simpa [bExpJ] using HQ2, HO2⟩
              case round =>
                clear HV2 HQ2 HO2 hgo hg hgd hcap hcm
                obtain ⟨wi, rfl⟩ : ∃ wi : World, wi = wr := ⟨_, rfl⟩
                obtain ⟨j, g, off, cap, rfl, hj, rfl, hg, hgd, hgw, hzi, HV, HQ, HO⟩ := hrel
                have hlen : (nxW m (E[i]!).1).length = A.length := by rw [HNXW.out, List.length_map]
                have HOF : Hid (BOk (nxW m) S (bExpJ (nxW m) E i j) i j) := HOE.out.exp (nxW_lt OK.out) hlt j (by omega)
                have hpre := bExpJ_pre (nxW m) E i j
                obtain ⟨F, hF⟩ : ∃ F, F = bExpJ (nxW m) E i j := ⟨_, rfl⟩
                rw [← hF] at hpre HOF HV HQ ⊢
                have hFi : F[i]! = E[i]! := bPre_at hpre hlt
                have hFl : i < F.length := Nat.lt_of_lt_of_le hlt hpre.length_le
                have hF768 := HOF.out.le
                have hzi2 := HV.out.sz
                have hcap := HQ.out.lc
                rw [prs_len] at hcap
                have hcm := HQ.out.cm
                unfold maxLen at hcm
                have HFF := Lib.hid hF
                have HFI := Lib.hid hFi
                have HLEN := Lib.hid hlen
                obtain ⟨q0, q1, q2⟩ := HV.out.cells HBX.out
                have HBEL := Lib.hid HV.out.bel
                clear hF hpre hFi hlen
                by_cases hlt2 : j < A.length
                · have hjI : (j : Int) < (A.length : Int) := by omega
                  obtain ⟨b8, off8, av, ha8, HX, hbs8, e8⟩ := (ic_of HO.out).at j hlt2
                  subst ha8
                  have hmem : av ∈ actsL m (x : Nat) (l : Nat) := by rw [← HAA.out, ← HX.out, getElem!_pos A j hlt2]; exact List.getElem_mem hlt2
                  obtain ⟨y, k, hd, hy, hk, hst⟩ := do_nat OK.out hxs hl hmem
                  have hy12 : y < 12 := by have := OK.out.s2; omega
                  have hyI : (y : Int) < 12 := by omega
                  have hkI : (k : Int) < 64 := by omega
                  have hat : (nxW m (E[i]!).1)[j]! = y * 64 + k := by rw [HNXW.out, getElem!_pos _ j (by simpa using hlt2), List.getElem_map, ← hst, ← HX.out, getElem!_pos A j hlt2]
                  have HSTEP : Hid (bExpJ (nxW m) E i (j + 1) = bAdd (c + 1) F (y * 64 + k)) := by
                    show _ = _
                    rw [bExpJ_step (nxW m) E i (by rw [HLEN.out]; exact hlt2), ← HFF.out, hat, ← HC.out]
                  have HD := Lib.hid hd
                  have ec := HV.out.out.cell (y * 64 + k) (by omega)
                  have fc := HV.out.out.fr (y * 64 + k) (by omega)
                  rw [gridL_at F (by omega)] at ec
                  have exl := HV.out.out.cell (x * 64 + l) (by omega)
                  have hFin : (x * 64 + l, c) ∈ F := by have := bMem hFl; rw [HFI.out] at this; rw [HC.out, ← HSE.out]; exact this
                  rw [gridL_at F (by omega), bD_some HOF.out.nd hFin rfl] at exl
                  have HFIN := Lib.hid hFin
                  clear hmem hst hat hd hFin
                  have HCEL : Hid (∀ W, Below wi.heap.size wi W → W.cell? ⟨w.heap.size + 2, y * 64 + k, none⟩ = some (.int .i64 (bD F (y * 64 + k))) ∧ W.frozen? ⟨w.heap.size + 2, y * 64 + k, none⟩ = false ∧ W.cell? ⟨w.heap.size + 2, x * 64 + l, none⟩ = some (.int .i64 (c : Int))) := fun W hW => ⟨(hW.cell (p := ⟨w.heap.size + 2, y * 64 + k, none⟩) (by show w.heap.size + 2 < _; omega)).trans ec, (hW.frozen (p := ⟨w.heap.size + 2, y * 64 + k, none⟩) (by show w.heap.size + 2 < _; omega)).trans fc, (hW.cell (p := ⟨w.heap.size + 2, x * 64 + l, none⟩) (by show w.heap.size + 2 < _; omega)).trans exl⟩
                  clear ec fc exl
                  go_upto_region 24 with (go_at_call 55; refine (behind_c _ m x l av _ (HMW.out _ (HBEL.out.trans (by (repeat (first | exact Below.refl _ _ | apply Below.drew | apply below_drewN | (refine Below.setCell ?_ (by first | omega | (simp; done) | (simp; omega) | (dsimp only; omega)) _) | (refine Below.alloc ?_ (by first | omega | (simp; done) | (simp; omega) | (dsimp only; omega)) _)))))) OK.out hxs hl).mono ?_; rintro e w3 ⟨rfl, hb3⟩; rw [HD.out])
                  have HB3 : Hid (Below wi.heap.size wi w3) := below_then (by (repeat (first | exact Below.refl _ _ | apply Below.drew | apply below_drewN | (refine Below.setCell ?_ (by first | omega | (simp; done) | (simp; omega) | (dsimp only; omega)) _) | (refine Below.alloc ?_ (by first | omega | (simp; done) | (simp; omega) | (dsimp only; omega)) _)))) hb3
                  obtain ⟨ec, fc, exl⟩ := HCEL.out w3 HB3.out
                  have HV3 : Hid (VW wb w bx w3 (gridL F)) := HV.out.later hwb HB3.out
                  have HQ3 : Hid (Q2 w3 g off cap (prs (F.drop i))) := HQ.out.later HB3.out
                  have HO3 : Hid (Own wo.heap.size w2.heap.size w3 3 1 (.slice (some ⟨b8, off8, none⟩) A.length c2) A.length (ints A)) := HO.out.later HB3.out hzi
                  have hz3 := HB3.out.size
                  have hgi := HQ.out.gs
                  clear HV HQ HO HB3 hb3 HCEL q0 q1 q2 e8 HBEL
                  cases hany : F.any (fun e => e.1 == y * 64 + k)
                  case true =>
                    have hbd : ¬ (bD F (y * 64 + k) < 0) := fun h => by rw [bD_neg.1 h] at hany; cases hany
                    have HJN : Hid (bExpJ (nxW m) E i (j + 1) = F) := by show _ = _; rw [HSTEP.out]; exact bAdd_yes hany
                    obtain ⟨bv, hbv⟩ : ∃ bv, bv = bD F (y * 64 + k) := ⟨_, rfl⟩
                    rw [← hbv] at ec hbd
                    have hbd' : decide (bv < 0) = false := by simpa using hbd
                    clear hany hbv
                    go_wp2
                    go_roundw
                    case rel => exact ⟨j + 1, g, off, cap, by go_num, by omega, by rw [HJN.out], hg, hgd, hgw, by omega, by rw [HJN.out]; exact HV3, by rw [HJN.out]; exact HQ3, HO3⟩
                    case measure => simp [intOf]; omega
                  case false =>
                    have HJN : Hid (bExpJ (nxW m) E i (j + 1) = F ++ [(y * 64 + k, c + 1)]) := by show _ = _; rw [HSTEP.out]; exact bAdd_no hany
                    rw [bD_none hany] at ec
                    have hne : y * 64 + k ≠ x * 64 + l := fun h => by
                      have := List.any_eq_false.1 hany _ HFIN.out
                      rw [h] at this
                      simp at this
                    have HANY := Lib.hid hany
                    have hcw : IntKind.i64.wrap ((c : Int) + 1) = (c : Int) + 1 := by rw [IntKind.wrap_i64]; omega
                    clear hany
                    go_upto_region 25 with fail
                    go_region_held3 (fun W => W.cell? ⟨w.heap.size + 2, x * 64 + l, none⟩ = some (.int .i64 (c : Int)))
                      (first | exact exl | exact (World.cell?_setCell_other w3 _ _ _ (fun h => by have := congrArg Addr.off h; simp at this; omega)).trans exl)
                      (fail)
                    have HV4 : Hid (VW wb w bx (w3.setCell ⟨w.heap.size + 2, y * 64 + k, none⟩ (.int .i64 ((c : Int) + 1))).drew (gridL (F ++ [(y * 64 + k, c + 1)]))) := by
                      have := HV3.out.set hwb (y * 64 + k) ((c + 1 : Nat) : Int)
                      rw [gridL_snoc HANY.out (by omega)] at this
                      exact this.later hwb (Below.refl _ _).drew
                    have HQ4 : Hid (Q2 (w3.setCell ⟨w.heap.size + 2, y * 64 + k, none⟩ (.int .i64 ((c : Int) + 1))).drew g off cap (prs (F.drop i))) := (HQ3.out.grown (grown_setCell _ _ _) (by simp; omega)).later (Below.refl _ _).drew
                    have HO4 : Hid (Own wo.heap.size w2.heap.size (w3.setCell ⟨w.heap.size + 2, y * 64 + k, none⟩ (.int .i64 ((c : Int) + 1))).drew 3 1 (.slice (some ⟨b8, off8, none⟩) A.length c2) A.length (ints A)) := (HO3.out.setCell (.inl (by show w.heap.size + 2 < _; omega)) _).later (B := w3.heap.size) (Below.refl _ _).drew (by omega)
                    obtain ⟨w4, hw4⟩ : ∃ w4, w4 = (w3.setCell ⟨w.heap.size + 2, y * 64 + k, none⟩ (.int .i64 ((c : Int) + 1))).drew := ⟨_, rfl⟩
                    have hz4 : w4.heap.size ≤ w3.heap.size := by rw [hw4]; simp
                    have hz4' : w3.heap.size ≤ w4.heap.size := by rw [hw4]; simp
                    rw [← hw4] at HV4 HQ4 HO4 ⊢
                    clear hw4 HV3 HQ3 HO3 ec fc exl
                    have HA4 : Hid (Below w4.heap.size w4 (w4.alloc (.cells #[.int .i64 (y : Int), .int .i64 (k : Int)] 76))) := (Below.refl _ _).alloc (Nat.le_refl _) _
                    have hpl : (prs (F.drop i)).length = F.length - i := prs_len F i
                    have HPL := Lib.hid hpl
                    clear hpl
                    go_wp2_with (at_builtin; refine wpList_append_q2 _ rfl _ _ 77 rfl 76 i2 _ Try.underlying77 ji jz0 jz1 jz2 rfl g off cap (prs (F.drop i)) (by rw [HPL.out]; rfl) (HQ4.out.later HA4.out) w4.heap.size rfl (y : Int) (k : Int) (by simp [go_sem]) (by simp [go_sem]) (by rw [HPL.out]; omega) ?_; intro g5 off5 cap5 w5 hq5 hg5 hat5; rw [HPL.out])
                    have HQ5 : Hid (Q2 w5 g5 off5 cap5 (prs ((F ++ [(y * 64 + k, c + 1)]).drop i))) := by rw [prs_snoc (by omega), prN_id y k hk]; exact hq5
                    have HV5 : Hid (VW wb w bx w5 (gridL (F ++ [(y * 64 + k, c + 1)]))) := (HV4.out.later hwb HA4.out).grown hwb hg5 hg hgd
                    have HO5 : Hid (Own wo.heap.size w2.heap.size w5 3 1 (.slice (some ⟨b8, off8, none⟩) A.length c2) A.length (ints A)) := (HO4.out.later HA4.out (by omega)).grown hg5 (fun b hb => by cases hb; exact hgw)
                    have hz5 : w4.heap.size + 1 ≤ w5.heap.size := by have := hg5.size; simpa using this
                    have hat5' : g5 = g ∨ g5 = w4.heap.size + 1 := by simpa using hat5
                    have hL1 : F.length - i + 1 = (F ++ [(y * 64 + k, c + 1)]).length - i := by simp; omega
                    have HL1 := Lib.hid hL1
                    clear hq5 hg5 hat5 HV4 HQ4 HO4 HA4 hL1
                    go_wp2
                    go_roundw
                    case rel => exact ⟨j + 1, g5, off5, cap5, by go_num, by omega, by rw [HJN.out, ← HL1.out], by omega, by omega, by omega, by omega, by rw [HJN.out]; exact HV5, by rw [HJN.out]; exact HQ5, HO5⟩
                    case measure => simp [intOf]; omega
                · obtain rfl : j = A.length := by omega
                  have HNEXT : Hid (bfE (nxW m) E0 (i + 1) = F) := by
                    show _ = _
                    rw [bfE_next (by rw [← HE.out]; exact hlt), ← HE.out, HFF.out, ← HLEN.out]; rfl
                  have hq1 : F.length - i = (F.length - (i + 1)) + 1 := by omega
                  have hqd : prs (F.drop i) = prN (F[i]!).1 :: prs (F.drop (i + 1)) := prs_at hFl
                  have HQT : Hid (Q2 wi g off cap (prN (F[i]!).1 :: prs (F.drop (i + 1)))) := by rw [← hqd]; exact HQ.out
                  have HI1 : Hid (i + 1 ≤ F.length) := hFl
                  rw [hq1] at hcap ⊢
                  obtain ⟨nq, hnq2⟩ : ∃ nq, nq = F.length - (i + 1) := ⟨_, rfl⟩
                  rw [← hnq2] at hcap ⊢
                  have HNQ := Lib.hid hnq2
                  have hlc1 : 1 ≤ cap := by omega
                  have h1l : (1 : Int) ≤ (nq : Int) + 1 := by omega
                  clear hqd HQ hq1 hnq2
                  by_cases hc1 : cap = 1
                  · subst hc1
                    obtain rfl : nq = 0 := by omega
                    have HQL := Lib.hid HQT.out.last
                    go_wp2
                    go_roundg (768 - (i + 1))
                    case measure => rw [HGK.out]; omega
                    case rel => exact ⟨i + 1, g, off, 0, rfl, by rw [HNEXT.out, ← HNQ.out], by rw [HNEXT.out]; exact HI1.out, hg, hgd, by rw [HNEXT.out]; exact HV, by rw [HNEXT.out]; exact HQL⟩
                  · have HQL := Lib.hid (HQT.out.tail (by omega))
                    go_wp2
                    go_roundg (768 - (i + 1))
                    case measure => rw [HGK.out]; omega
                    case rel => exact ⟨i + 1, g, off + 2, cap - 1, rfl, by rw [HNEXT.out, ← HNQ.out], by rw [HNEXT.out]; exact HI1.out, hg, hgd, by rw [HNEXT.out]; exact HV, by rw [HNEXT.out]; exact HQL⟩
            · obtain rfl : i = E.length := by omega
              have HFIN : Hid (FF = E) := by
                show _ = _
                rw [HFFF.out, bfF_eq (i := E.length) (by omega) (by rw [← HE.out]; exact Nat.le_refl _), ← HE.out]
              have hst2 := run_store_grid (P := Try.prog) wo (gridL E) (gridL_len E) HV.out.res.there
              have hgr := grown_setCells (w.heap.size + 1) (ints (gridL E)) 0 wo
              have hG9 := GrA.of (gridL_len E) HV.out.res.there HV.out.res.lt
              obtain ⟨w9, hw9⟩ : ∃ w9, w9 = wo.setCells (w.heap.size + 1) 0 (ints (gridL E)) := ⟨_, rfl⟩
              rw [← hw9] at hst2 hgr hG9
              have HB9 : Hid (Below wb.heap.size w w9) := Below.grown HBEL.out hgr (by omega) (fun b hb => by cases hb; omega)
              have HI9 : Hid ((Try.prog.info? 75).map (·.size) = some (ints (gridL E)).length) := by show _ = _; rw [length_ints, gridL_len]; exact HZG.out.2
              have hld := run_loadVar_mid (P := Try.prog) w9 (w.heap.size + 1) 0 75 (ints (gridL E)) _ hG9.range Try.underlying75 rfl HI9.out
              have HRG := Lib.hid HV.out.out.range
              clear hw9 hgr hG9 HV HQ
              go_wp2_with fail
              refine wp_load_mid 75 _ rfl (w.heap.size + 2) 0 rfl (ints (gridL E)) _ HRG.out Try.underlying75 rfl HI9.out ?_
              go_wp2
              refine bodyPost_ret (v := .agg (ints (gridL E)).toArray) (by simp [results, Try.results60, asAddr, Result.andThen, hld]) rfl ?_
              exact ⟨by rw [HFIN.out], HB9.out⟩
end Go.Proofs.Ytldogbahbjompaa
