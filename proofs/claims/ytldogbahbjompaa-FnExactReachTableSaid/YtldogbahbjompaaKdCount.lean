/- CountVisits: the program's rows of visits, and how many there are. -/
import Derived.Test.YtldogbahbjompaaKdVis
import Derived.Test.YtldogbahbjompaaKdThose
set_option linter.unusedVariables false
set_option linter.unusedSimpArgs false
namespace Go.KD
open Go.RowKit
/-- Can one come to this visit? -/
def reachF (m : Wk) : List Bn := bfF (nxW m) [((0, 0) : Bn)]
def rchB (E : List Bn) (x l : Nat) : Bool := decide (0 ≤ bD E (x * 64 + l))
def rowN (E : List Bn) (x : Nat) : List Nat := thoseN (rchB E x) 64
/-- The first k rows' lengths, summed. -/
def sumN (E : List Bn) : Nat → Nat
  | 0 => 0
  | k + 1 => sumN E k + (rowN E k).length
def cntN (E : List Bn) (k : Nat) : Nat := ((List.range k).filter fun i => decide (0 ≤ bD E i)).length
theorem cntN_yes {E : List Bn} {k : Nat} (h : 0 ≤ bD E k) : cntN E (k + 1) = cntN E k + 1 := by simp [cntN, List.range_succ, List.filter_append, h]
theorem cntN_no {E : List Bn} {k : Nat} (h : ¬ 0 ≤ bD E k) : cntN E (k + 1) = cntN E k := by simp [cntN, List.range_succ, List.filter_append, h]
theorem cntN_le (E : List Bn) (k : Nat) : cntN E k ≤ k := Nat.le_trans (List.length_filter_le _ _) (by simp)
theorem cnt_block (E : List Bn) (x : Nat) : ∀ l, l ≤ 64 → cntN E (x * 64 + l) = cntN E (x * 64) + (thoseN (rchB E x) l).length
  | 0, _ => by simp [thoseN]
  | l + 1, hl => by
    have ih := cnt_block E x l (by omega)
    rw [← Nat.add_assoc]
    by_cases h : 0 ≤ bD E (x * 64 + l)
    · rw [cntN_yes h, ih, thoseN_yes (by unfold rchB; exact decide_eq_true h)]; simp; omega
    · rw [cntN_no h, ih, thoseN_no (by unfold rchB; exact decide_eq_false h)]
theorem sum_cnt (E : List Bn) : ∀ k, sumN E k = cntN E (k * 64)
  | 0 => by simp [sumN, cntN]
  | k + 1 => by
    have ih := sum_cnt E k
    have := cnt_block E k 64 (Nat.le_refl _)
    show sumN E k + (rowN E k).length = _
    rw [ih, Nat.succ_mul, this]; rfl
noncomputable def pCountVisits (m : Wk) : Int × Bool := if worksB m then (((cntN (reachF m) (m.pulls.length * 64) : Nat) : Int), true) else (0, false)
/-- Rows whose lengths are told. -/
def LensV (vs : List Value) (f : Nat → Nat) : Prop := ∀ i, i < vs.length → ∃ a c, vs[i]? = some (.slice a (f i) c)
theorem LensV.snoc {vs : List Value} {f : Nat → Nat} (h : LensV vs f) {a : Option Addr} {c n : Nat} (hn : n = f vs.length) : LensV (vs ++ [.slice a n c]) f := by
  intro i hi
  rw [List.length_append, List.length_singleton] at hi
  rcases Nat.lt_or_ge i vs.length with hl | hl
  · obtain ⟨a', c', h'⟩ := h i hl
    exact ⟨a', c', by rw [List.getElem?_append_left hl]; exact h'⟩
  · obtain rfl : i = vs.length := by omega
    exact ⟨a, c, by rw [List.getElem?_append_right (Nat.le_refl _), Nat.sub_self, ← hn]; rfl⟩
end Go.KD
namespace Go.Proofs.Ytldogbahbjompaa
open Go.RowKit Go.KD
attribute [local go_sem] later_cell later_frozen
theorem infoSl : (Try.prog.info? 23).map (fun i => (i.zero, i.size, i.bytes)) = some (some (.slice none 0 0), 1, 24) := by kernel_rfl
set_option maxHeartbeats 4000000 in
theorem reachClo_c (g b x l : Nat) (G : List Int) (E : List Bn) (W : World) (hG : GrA W g G) (hE : ∀ i, i < 768 → G[i]! = bD E i) (hx : x < 12) (hl : l < 64) (qx : W.cell? ⟨b, 0, none⟩ = some (.int .i64 (x : Int))) :
    Calls Try.prog 62 #[.int .i64 (l : Nat), .pointer (some ⟨g, 0, none⟩), .pointer (some ⟨b, 0, none⟩)] W fun e W' => e = .returned (.bool (rchB E x l)) ∧ Below W.heap.size W W' := by
  have c0 := hG.cell (x * 64 + l) (by omega)
  rw [hE _ (by omega)] at c0
  have hxI : (x : Int) < 12 := by omega
  have hlI : (l : Int) < 64 := by omega
  have HR : Hid (rchB E x l = decide (0 ≤ bD E (x * 64 + l))) := rfl
  obtain ⟨rv, hrv⟩ : ∃ rv, rv = bD E (x * 64 + l) := ⟨_, rfl⟩
  rw [← hrv] at c0 HR
  clear hrv hE hG
  go_enter Try.func62, Try.ntmps62
  go_wp2
  go_ret
  exact ⟨by rw [HR.out]; rfl, by (repeat (first | exact Below.refl _ _ | apply Below.drew | apply below_drewN | (refine Below.setCell ?_ (by first | omega | (simp; done) | (simp; omega) | (dsimp only; omega)) _) | (refine Below.alloc ?_ (by first | omega | (simp; done) | (simp; omega) | (dsimp only; omega)) _)))⟩
set_option maxRecDepth 100000 in
set_option maxHeartbeats 16000000 in
theorem reachLen_c (m : Wk) (ad ak : Option Addr) (cd ck : Nat) (n : Nat) (hn : n = m.pulls.length) (w : World) (hm : WkAt w (.agg #[.int .i64 m.size, .slice ad m.gates.length cd, .slice ak m.pulls.length ck]) m) (b1 : worksB m = true) :
    Calls Try.prog 26 #[(.agg #[.int .i64 m.size, .slice ad m.gates.length cd, .slice ak m.pulls.length ck])] w fun e w' => ∃ g c vs, e = .returned (.tuple #[.slice (some ⟨g, 0, none⟩) n c, .bool true]) ∧ w'.ownsRow w.heap.size 23 1 (.slice (some ⟨g, 0, none⟩) n c) n vs ∧ LensV vs (fun x => (rowN (reachF m) x).length) ∧ Below w.heap.size w w' := by
  obtain ⟨s0, si, sz0, sz1, sz2⟩ := info_parts infoSl
  have HZG := Lib.hid zeroGrid
  have OK := Lib.hid (worksB_true.1 b1)
  have hnp := OK.out.np
  have hs1 := OK.out.s1
  have hs2 := OK.out.s2
  have hsn1 : m.size ≤ (n : Int) := by omega
  have hsn2 : (n : Int) ≤ m.size := by omega
  have hn12 : n ≤ 12 := by omega
  obtain ⟨E, hE⟩ : ∃ E, E = reachF m := ⟨_, rfl⟩
  rw [← hE]
  obtain ⟨G, hG⟩ : ∃ G, G = gridL E := ⟨_, rfl⟩
  have hGl : G.length = 768 := by rw [hG]; exact gridL_len _
  have HGE : Hid (∀ i, i < 768 → G[i]! = bD E i) := by rw [hG]; exact fun i hi => gridL_at E hi
  have HGL := Lib.hid hGl
  have hx0 : ∀ s ∈ [0], ((s / 64 : Nat) : Int) < m.size := fun s hs => by rw [List.mem_singleton] at hs; rw [hs]; show ((0 / 64 : Nat) : Int) < _; omega
  have HVIS : Hid (∀ (g off cap : Nat) (wb w' : World), WkAt wb (.agg #[.int .i64 m.size, .slice ad m.gates.length cd, .slice ak m.pulls.length ck]) m → Below wb.heap.size wb w' → Q2 w' g off cap ([0].map prN) → wb.heap.size ≤ g → Calls Try.prog 60 #[(.agg #[.int .i64 m.size, .slice ad m.gates.length cd, .slice ak m.pulls.length ck]), .slice (some ⟨g, off, none⟩) 1 cap] w' fun e w'' => e = .returned (.agg (ints G).toArray) ∧ Below wb.heap.size w' w'') := by
    rw [hG, hE]
    exact fun g off cap wb w' h1 h2 h3 h4 => visits_c m ad ak cd ck [0] g off cap wb w' h1 OK.out h2 (by simp) hx0 h3 h4
  clear hE hG hGl hn hnp hx0
  go_enter Try.func26, Try.ntmps26
  go_upto_region 3 with (go_at_call 53; refine (isWorks_c _ m _ (hm.later (by (repeat (first | exact Below.refl _ _ | apply Below.drew | apply below_drewN | (refine Below.setCell ?_ (by first | omega | (simp; done) | (simp; omega) | (dsimp only; omega)) _) | (refine Below.alloc ?_ (by first | omega | (simp; done) | (simp; omega) | (dsimp only; omega)) _)))))).mono ?_; rintro e w1 ⟨rfl, hb1⟩; have HB1 : Hid (Below w.heap.size w w1) := below_then (by (repeat (first | exact Below.refl _ _ | apply Below.drew | apply below_drewN | (refine Below.setCell ?_ (by first | omega | (simp; done) | (simp; omega) | (dsimp only; omega)) _) | (refine Below.alloc ?_ (by first | omega | (simp; done) | (simp; omega) | (dsimp only; omega)) _)))) hb1; have HX1 : Hid (Below (w.heap.size + 1) (w.alloc (.cells #[.int .i64 m.size, .slice ad m.gates.length cd, .slice ak m.pulls.length ck] 40)) w1) := hb1.mono (by simp); rw [b1])
  obtain ⟨q0, q1, q2, z1⟩ := box3W HX1.out (by omega)
  have HM1 : Hid (WkAt w1 (.agg #[.int .i64 m.size, .slice ad m.gates.length cd, .slice ak m.pulls.length ck]) m) := hm.later HB1.out
  have HQ : Hid (Q2 (w1.alloc (.cells #[.int .i64 0, .int .i64 0] 76)) w1.heap.size 0 1 ([0].map prN)) := by
    have hpr : prN 0 = (0, 0) := rfl
    refine ⟨by simp, Nat.le_refl _, by unfold maxLen; omega, fun j hj => ?_, fun j hj => ?_, fun j hj => ?_⟩
    · obtain rfl : j = 0 := by simpa using hj
      simp [go_sem, hpr]
    · obtain rfl : j = 0 := by simpa using hj
      simp [go_sem, hpr]
    · have hj2 : j = 0 ∨ j = 1 := by omega
      rcases hj2 with rfl | rfl <;> simp [go_sem]
  go_upto_region 4 with (first
    | (go_at_call 60; refine (HVIS.out w1.heap.size 0 1 w1 _ HM1.out ((Below.refl _ _).alloc (Nat.le_refl _) _) HQ.out (Nat.le_refl _)).mono ?_; rintro e w2 ⟨rfl, hb2⟩; have HB2 : Hid (Below w1.heap.size w1 w2) := ((Below.refl _ _).alloc (Nat.le_refl _) _).trans hb2; have hst : (storeCells ⟨w2.heap.size + 1, 0, none⟩ (ints G)).run Try.prog ((w2.alloc (.cells #[] 23)).alloc (.cells (ints zer).toArray 75)) = .ok () (((w2.alloc (.cells #[] 23)).alloc (.cells (ints zer).toArray 75)).setCells (w2.heap.size + 1) 0 (ints G)) := run_store_grid _ _ HGL.out (by have h := (GrA.new (w2.alloc (.cells #[] 23)) 75 zer_len).there; have e : (w2.alloc (.cells #[] 23)).heap.size = w2.heap.size + 1 := (by simp); rw [e] at h; exact h))
    | (refine wpList_alloc_z _ rfl 75 rfl _ HZG.out.1 ?_))
  obtain ⟨W0, hW0⟩ : ∃ W0, W0 = w2.alloc (.cells #[] 23) := ⟨_, rfl⟩
  have hz0 : W0.heap.size = w2.heap.size + 1 := by rw [hW0]; simp
  have ho0 : W0.ownsRow (w.heap.size + 1) 23 1 (.slice (some ⟨w2.heap.size, 0, none⟩) 0 0) 0 [] := by
    rw [hW0]
    exact World.ownsRow_lit (base := w.heap.size + 1) (e := 23) (size := 1) w2 #[] 0 (by have := HB2.out.size; omega) (by unfold maxLen; omega) rfl
  have hb0 : Below w1.heap.size w1 W0 := by rw [hW0]; exact HB2.out.alloc HB2.out.size _
  rw [← hW0]
  have hgn := GrA.new W0 75 zer_len
  rw [hz0] at hgn
  have hG1 : GrA ((W0.alloc (.cells (ints zer).toArray 75)).setCells (w2.heap.size + 1) 0 (ints G)) (w2.heap.size + 1) G := GrA.of HGL.out hgn.there hgn.lt
  have hgr := grown_setCells (w2.heap.size + 1) (ints G) 0 (W0.alloc (.cells (ints zer).toArray 75))
  have hA0 : Below W0.heap.size W0 (W0.alloc (.cells (ints zer).toArray 75)) := (Below.refl _ _).alloc (Nat.le_refl _) _
  have ho1 := own_grownW (own_belowW ho0 hA0) hgr (by omega)
  have hz12 := HB2.out.size
  have hb1' : Below w1.heap.size w1 ((W0.alloc (.cells (ints zer).toArray 75)).setCells (w2.heap.size + 1) 0 (ints G)) := Below.grown (hb0.trans (hA0.mono (by omega))) hgr (by simp; omega) (fun b hb => by cases hb; omega)
  obtain ⟨W1, hW1⟩ : ∃ W1, W1 = ((W0.alloc (.cells (ints zer).toArray 75)).setCells (w2.heap.size + 1) 0 (ints G)) := ⟨_, rfl⟩
  have hzW1 : w2.heap.size + 2 ≤ W1.heap.size := by rw [hW1, size_setCells]; simp; omega
  rw [← hW1] at hG1 ho1 hb1' ⊢
  have HG1 := Lib.hid hG1
  have HO1 := Lib.hid ho1
  have HBB : Hid (Below w1.heap.size w1 W1) := hb1'
  have HQ1 : Hid (∀ W, Below w1.heap.size w1 W → W.cell? ⟨w.heap.size, 0, none⟩ = some (.int .i64 m.size) ∧ W.cell? ⟨w.heap.size, 1, none⟩ = some (.slice ad m.gates.length cd) ∧ W.cell? ⟨w.heap.size, 2, none⟩ = some (.slice ak m.pulls.length ck) ∧ Below w.heap.size w W) := fun W hW => ⟨(hW.cell (p := ⟨w.heap.size, 0, none⟩) z1).trans q0, (hW.cell (p := ⟨w.heap.size, 1, none⟩) z1).trans q1, (hW.cell (p := ⟨w.heap.size, 2, none⟩) z1).trans q2, below_then HB1.out hW⟩
  obtain ⟨p0, p1, p2, -⟩ := HQ1.out W1 HBB.out
  clear hW0 hz0 ho0 hb0 hgn hgr hA0 ho1 hb1' hW1 hG1 hst q0 q1 q2 HQ
  go_wp2
  go_loopw [17, 5] (fun kv tv wr => ∃ (k g c : Nat) (vs : List Value), kv = .int .i64 k ∧ k ≤ n ∧ tv = .slice (some ⟨g, 0, none⟩) k c ∧ g ≠ w2.heap.size + 1 ∧ w2.heap.size + 2 ≤ wr.heap.size ∧ Hid (wr.ownsRow (w.heap.size + 1) 23 1 (.slice (some ⟨g, 0, none⟩) k c) k vs) ∧ Hid (vs.length = k ∧ LensV vs (fun x => (rowN E x).length)) ∧ Hid (GrA wr (w2.heap.size + 1) G) ∧ Hid (Below (w.heap.size + 1) w1 wr)) (fun kv _ _ => n - (intOf kv).toNat)
  case atStart => exact ⟨0, w2.heap.size, 0, [], rfl, Nat.zero_le _, rfl, by omega, hzW1, HO1, ⟨rfl, fun i hi => by simp at hi⟩, HG1, HBB.out.mono (by omega)⟩
  case round =>
    clear HO1 HG1 HBB p0 p1 p2
    obtain ⟨wo, rfl⟩ : ∃ wo : World, wo = wr := ⟨_, rfl⟩
    obtain ⟨k, g, c, vs, rfl, hk, rfl, hgne, hzo, HO, HL, HG, HB⟩ := hrel
    by_cases hlt : k < n
    · have hkI : (k : Int) < m.size := by omega
      have hkn : k < 12 := by omega
      have hA : Below wo.heap.size wo (wo.alloc (.cells #[.int .i64 (k : Int)] 3)) := (Below.refl _ _).alloc (Nat.le_refl _) _
      have HA := Lib.hid hA
      have HGA : Hid (GrA (wo.alloc (.cells #[.int .i64 (k : Int)] 3)) (w2.heap.size + 1) G) := HG.out.later hA
      have hqx : (wo.alloc (.cells #[.int .i64 (k : Int)] 3)).cell? ⟨wo.heap.size, 0, none⟩ = some (.int .i64 (k : Int)) := by simp [go_sem]
      have HQX := Lib.hid hqx
      have HCALL : Hid (Calls Try.prog 61 #[.func (.func 62) #[] #[.pointer (some ⟨w2.heap.size + 1, 0, none⟩), .pointer (some ⟨wo.heap.size, 0, none⟩)]] (wo.alloc (.cells #[.int .i64 (k : Int)] 3)) fun e w' => ∃ u, e = .returned u ∧ w'.ownsRow (wo.alloc (.cells #[.int .i64 (k : Int)] 3)).heap.size 3 1 u (rowN E k).length (ints (natsI (rowN E k))) ∧ Below (wo.alloc (.cells #[.int .i64 (k : Int)] 3)).heap.size (wo.alloc (.cells #[.int .i64 (k : Int)] 3)) w') :=
        thoseG_c 62 Try.f62 Try.func62 (by kernel_rfl) rfl #[.pointer (some ⟨w2.heap.size + 1, 0, none⟩), .pointer (some ⟨wo.heap.size, 0, none⟩)] (rchB E k) _ (fun s hs W hW => reachClo_c (w2.heap.size + 1) wo.heap.size k s G E W (HGA.out.later hW) HGE.out (by omega) hs ((hW.cell (p := ⟨wo.heap.size, 0, none⟩) (by simp)).trans HQX.out))
      have hrl : (rowN E k).length ≤ 64 := thoseN_len _ _
      obtain ⟨rn, hrn⟩ : ∃ rn, rn = (rowN E k).length := ⟨_, rfl⟩
      rw [← hrn] at HCALL hrl
      have HRN := Lib.hid hrn
      clear hA hqx hrn
      go_wp2_with (first | (at_builtin; refine wpList_append_lies _ rfl _ _ 44 rfl (w.heap.size + 1) 23 s0 (.slice none 0 0) 1 24 Try.underlying44 si sz0 sz1 sz2 rfl (by decide) (.slice (some ⟨g, 0, none⟩) k c) _ _ rfl HO3.out ⟨w3.heap.size, 0, none⟩ 1 1 [.slice a3 rn c3] rfl rfl ?_ ?_ (by omega) ?_ ?_ ?_ (w3.heap.size + 1) ?_ ?_; (exact cell_one_new _ _ _); (simp [Value.oneCell']); (unfold maxLen; omega); omega; (simp; omega); (simp); intro g5 c5 w5 hown5 hgrow5 hat5 hlt5) | (go_at_call 61; refine HCALL.out.mono ?_; rintro e w3 ⟨u3, rfl, ho3, hb3⟩; obtain ⟨a3, c3, rfl⟩ := own_slice ho3; have HB3 : Hid (Below wo.heap.size wo w3) := HA.out.trans (hb3.mono (by simp)); have hz3 : wo.heap.size ≤ w3.heap.size := HB3.out.size; have HO3 : Hid (World.ownsRow (w3.alloc (.cells #[.slice a3 rn c3] 23)) (w.heap.size + 1) 23 1 (.slice (some ⟨g, 0, none⟩) k c) k vs) := own_belowW (own_belowW HO.out HB3.out) ((Below.refl _ _).alloc (Nat.le_refl _) _); clear ho3 hb3))
      have hA5 : Below w3.heap.size w3 (w3.alloc (.cells #[.slice a3 rn c3] 23)) := (Below.refl _ _).alloc (Nat.le_refl _) _
      have hgr5 : World.grownBy (w3.alloc (.cells #[.slice a3 rn c3] 23)) w5 (some g) := hgrow5
      have hg5 : g5 = g ∨ g5 = w3.heap.size + 1 := by rcases hat5 with h | h <;> first | exact .inr h | (left; symm; simpa [Value.ownBlock] using h)
      have hgl := own_block_lo HO.out (g := g) rfl
      have HG5 : Hid (GrA w5 (w2.heap.size + 1) G) := ((HG.out.later HB3.out).later hA5).grown hgr5 (by simp; omega)
      have HO5 : Hid (w5.ownsRow (w.heap.size + 1) 23 1 (.slice (some ⟨g5, 0, none⟩) (k + 1) c5) (k + 1) (vs ++ [.slice a3 rn c3])) := hown5
      have HL5 : Hid ((vs ++ [Value.slice a3 rn c3]).length = k + 1 ∧ LensV (vs ++ [.slice a3 rn c3]) (fun x => (rowN E x).length)) := ⟨by simp [HL.out.1], HL.out.2.snoc (by rw [HL.out.1]; exact HRN.out)⟩
      have HB5 : Hid (Below (w.heap.size + 1) w1 w5) := Below.grown ((HB.out.trans (HB3.out.mono (by omega))).trans (hA5.mono (by omega))) hgr5 (by have := HX1.out.size; simp at this; have := HB.out.size; simp; omega) (fun b hb => by cases hb; exact hgl)
      have hz5 : w3.heap.size + 1 ≤ w5.heap.size := by have := hgr5.size; simpa using this
      clear hown5 hgrow5 hat5 hgr5 HO3
      go_wp2
      go_roundw
      case rel => exact ⟨k + 1, g5, c5, vs ++ [.slice a3 rn c3], by go_num, by omega, rfl, by omega, by omega, HO5, HL5, HG5, HB5⟩
      case measure => simp [intOf]; omega
    · obtain rfl : n = k := by omega
      have hnI : decide ((n : Int) < m.size) = false := by simp; omega
      have HOF : Hid (wo.ownsRow w.heap.size 23 1 (.slice (some ⟨g, 0, none⟩) n c) n vs) := (Own.mono (Own.of HO.out) (by omega) (Nat.le_refl _)).row
      have HBF : Hid (Below w.heap.size w wo) := HB1.out.trans (HB.out.mono (by omega))
      go_wp2
      go_ret2
      exact ⟨_, _, _, rfl, HOF.out, HL.out.2, HBF.out⟩
theorem reachNo_c (m : Wk) (ad ak : Option Addr) (cd ck : Nat) (w : World) (hm : WkAt w (.agg #[.int .i64 m.size, .slice ad m.gates.length cd, .slice ak m.pulls.length ck]) m) (b1 : worksB m = false) :
    Calls Try.prog 26 #[(.agg #[.int .i64 m.size, .slice ad m.gates.length cd, .slice ak m.pulls.length ck])] w fun e w' => e = .returned (.tuple #[.slice none 0 0, .bool false]) ∧ Below w.heap.size w w' := by
  go_enter Try.func26, Try.ntmps26
  go_wp2_with (go_at_call 53; refine (isWorks_c _ m _ (hm.later (by (repeat (first | exact Below.refl _ _ | apply Below.drew | apply below_drewN | (refine Below.setCell ?_ (by first | omega | (simp; done) | (simp; omega) | (dsimp only; omega)) _) | (refine Below.alloc ?_ (by first | omega | (simp; done) | (simp; omega) | (dsimp only; omega)) _)))))).mono ?_; rintro e w1 ⟨rfl, hb1⟩; have HB1 : Hid (Below w.heap.size w w1) := below_then (by (repeat (first | exact Below.refl _ _ | apply Below.drew | apply below_drewN | (refine Below.setCell ?_ (by first | omega | (simp; done) | (simp; omega) | (dsimp only; omega)) _) | (refine Below.alloc ?_ (by first | omega | (simp; done) | (simp; omega) | (dsimp only; omega)) _)))) hb1; have HX1 : Hid (Below (w.heap.size + 1) (w.alloc (.cells #[.int .i64 m.size, .slice ad m.gates.length cd, .slice ak m.pulls.length ck] 40)) w1) := hb1.mono (by simp); rw [b1])
  go_ret2
  exact ⟨rfl, HB1.out⟩
