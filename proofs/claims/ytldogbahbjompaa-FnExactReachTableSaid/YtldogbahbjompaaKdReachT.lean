/- ReachTable: the states of the levers at all nodes. -/
import Derived.Test.YtldogbahbjompaaKdCount
import Derived.Test.YtldogbahbjompaaKdTab
set_option linter.unusedVariables false
set_option linter.unusedSimpArgs false
namespace Go.KD
open Go.RowKit
def rowsT (E : List Bn) (k : Nat) : List (List Int) := (List.range k).map fun x => natsI (rowN E x)
theorem rowsT_snoc (E : List Bn) (k : Nat) : rowsT E (k + 1) = rowsT E k ++ [natsI (rowN E k)] := by simp [rowsT, List.range_succ]
@[simp] theorem rowsT_len (E : List Bn) (k : Nat) : (rowsT E k).length = k := by simp [rowsT]
theorem ic_grown2T {w w' : World} {a : Option Addr} {n c : Nat} {l : List Int} {row : Option Nat} (h : IC w a l) (hg : w.grownBy w' row) (hne : ∀ b, (Value.slice a n c).ownBlock = some b → 0 < l.length → row ≠ some b) : IC w' a l := by
  intro k hk
  obtain ⟨b, off, hb, hbs, hc⟩ := h k hk
  subst hb
  refine ⟨b, off, rfl, Nat.lt_of_lt_of_le hbs hg.size, ?_⟩
  rw [← hc]
  exact World.cell?_of_block (hg.block b hbs (fun e => hne b rfl (by omega) e.symm))
theorem own_nil_no {w : World} {lo g : Nat} {e : TypeId} (h : w.ownsRow lo e 1 (.slice (some ⟨g, 0, none⟩) 0 0) 0 []) : w.cell? ⟨g, 0, none⟩ = none := by
  obtain ⟨hl, h1⟩ := h
  rcases h1 with ⟨hv, _⟩ | ⟨g', cap', cur, hv, hg, hh, hn, hm, hc, hx⟩
  · cases hv
  · cases hv
    simp only [World.cell?, hh]
    rw [Array.getElem?_eq_none (by omega)]; rfl
noncomputable def pReachTable (m : Wk) : List (List Int) × Bool := if worksB m then (rowsT (reachF m) m.pulls.length, true) else ([], false)
theorem pReachTable_len (m : Wk) : (pReachTable m).1.length ≤ 4096 ∧ ∀ i, i < (pReachTable m).1.length → ((pReachTable m).1[i]!).length ≤ 4096 := by
  unfold pReachTable
  split
  · rename_i h
    have h1 := (worksB_true.1 h).np
    have h2 := (worksB_true.1 h).s2
    refine ⟨by rw [rowsT_len]; omega, fun i hi => ?_⟩
    rw [getElem!_pos (rowsT (reachF m) m.pulls.length) i hi]
    simp only [rowsT, List.getElem_map, natsI_len]
    exact Nat.le_trans (thoseN_len _ _) (by omega)
  · exact ⟨by simp, fun i hi => by simp at hi⟩
end Go.KD
namespace Go.Proofs.Ytldogbahbjompaa
open Go.RowKit Go.KD
attribute [local go_sem] later_cell later_frozen
set_option maxRecDepth 100000 in
set_option maxHeartbeats 16000000 in
theorem reachTab_c (m : Wk) (ad ak : Option Addr) (cd ck : Nat) (n : Nat) (hn : n = m.pulls.length) (w : World) (hm : WkAt w (.agg #[.int .i64 m.size, .slice ad m.gates.length cd, .slice ak m.pulls.length ck]) m) (b1 : worksB m = true) :
    Calls Try.prog 26 #[(.agg #[.int .i64 m.size, .slice ad m.gates.length cd, .slice ak m.pulls.length ck])] w fun e w' => ∃ g c vs, e = .returned (.tuple #[.slice (some ⟨g, 0, none⟩) n c, .bool true]) ∧ TbOwn w.heap.size w'.heap.size w' 23 3 (.slice (some ⟨g, 0, none⟩) n c) n vs (rowsT (reachF m) n) ∧ Below w.heap.size w w' := by
  obtain ⟨s0, si, sz0, sz1, sz2⟩ := info_parts infoSl
  have HZG := Lib.hid zeroGrid
  have OK := Lib.hid (worksB_true.1 b1)
  have hnp := OK.out.np
  have hs1 := OK.out.s1
  have hs2 := OK.out.s2
  have hsn1 : m.size ≤ (n : Int) := by omega
  have hsn2 : (n : Int) ≤ m.size := by omega
  have hn12 : n ≤ 12 := by omega
  obtain ⟨E, hE⟩ : ∃ E, E = reachF m := ⟨_, rfl⟩
  rw [← hE]
  obtain ⟨G, hG⟩ : ∃ G, G = gridL E := ⟨_, rfl⟩
  have hGl : G.length = 768 := by rw [hG]; exact gridL_len _
  have HGE : Hid (∀ i, i < 768 → G[i]! = bD E i) := by rw [hG]; exact fun i hi => gridL_at E hi
  have HGL := Lib.hid hGl
  have hx0 : ∀ s ∈ [0], ((s / 64 : Nat) : Int) < m.size := fun s hs => by rw [List.mem_singleton] at hs; rw [hs]; show ((0 / 64 : Nat) : Int) < _; omega
  have HVIS : Hid (∀ (g off cap : Nat) (wb w' : World), WkAt wb (.agg #[.int .i64 m.size, .slice ad m.gates.length cd, .slice ak m.pulls.length ck]) m → Below wb.heap.size wb w' → Q2 w' g off cap ([0].map prN) → wb.heap.size ≤ g → Calls Try.prog 60 #[(.agg #[.int .i64 m.size, .slice ad m.gates.length cd, .slice ak m.pulls.length ck]), .slice (some ⟨g, off, none⟩) 1 cap] w' fun e w'' => e = .returned (.agg (ints G).toArray) ∧ Below wb.heap.size w' w'') := by
    rw [hG, hE]
    exact fun g off cap wb w' h1 h2 h3 h4 => visits_c m ad ak cd ck [0] g off cap wb w' h1 OK.out h2 (by simp) hx0 h3 h4
  clear hE hG hGl hn hnp hx0
  go_enter Try.func26, Try.ntmps26
  go_upto_region 3 with (go_at_call 53; refine (isWorks_c _ m _ (hm.later (by (repeat (first | exact Below.refl _ _ | apply Below.drew | apply below_drewN | (refine Below.setCell ?_ (by first | omega | (simp; done) | (simp; omega) | (dsimp only; omega)) _) | (refine Below.alloc ?_ (by first | omega | (simp; done) | (simp; omega) | (dsimp only; omega)) _)))))).mono ?_; rintro e w1 ⟨rfl, hb1⟩; have HB1 : Hid (Below w.heap.size w w1) := below_then (by (repeat (first | exact Below.refl _ _ | apply Below.drew | apply below_drewN | (refine Below.setCell ?_ (by first | omega | (simp; done) | (simp; omega) | (dsimp only; omega)) _) | (refine Below.alloc ?_ (by first | omega | (simp; done) | (simp; omega) | (dsimp only; omega)) _)))) hb1; have HX1 : Hid (Below (w.heap.size + 1) (w.alloc (.cells #[.int .i64 m.size, .slice ad m.gates.length cd, .slice ak m.pulls.length ck] 40)) w1) := hb1.mono (by simp); rw [b1])
  obtain ⟨q0, q1, q2, z1⟩ := box3W HX1.out (by omega)
  have HM1 : Hid (WkAt w1 (.agg #[.int .i64 m.size, .slice ad m.gates.length cd, .slice ak m.pulls.length ck]) m) := hm.later HB1.out
  have HQ : Hid (Q2 (w1.alloc (.cells #[.int .i64 0, .int .i64 0] 76)) w1.heap.size 0 1 ([0].map prN)) := by
    have hpr : prN 0 = (0, 0) := rfl
    refine ⟨by simp, Nat.le_refl _, by unfold maxLen; omega, fun j hj => ?_, fun j hj => ?_, fun j hj => ?_⟩
    · obtain rfl : j = 0 := by simpa using hj
      simp [go_sem, hpr]
    · obtain rfl : j = 0 := by simpa using hj
      simp [go_sem, hpr]
    · have hj2 : j = 0 ∨ j = 1 := by omega
      rcases hj2 with rfl | rfl <;> simp [go_sem]
  go_upto_region 4 with (first
    | (go_at_call 60; refine (HVIS.out w1.heap.size 0 1 w1 _ HM1.out ((Below.refl _ _).alloc (Nat.le_refl _) _) HQ.out (Nat.le_refl _)).mono ?_; rintro e w2 ⟨rfl, hb2⟩; have HB2 : Hid (Below w1.heap.size w1 w2) := ((Below.refl _ _).alloc (Nat.le_refl _) _).trans hb2; have hst : (storeCells ⟨w2.heap.size + 1, 0, none⟩ (ints G)).run Try.prog ((w2.alloc (.cells #[] 23)).alloc (.cells (ints zer).toArray 75)) = .ok () (((w2.alloc (.cells #[] 23)).alloc (.cells (ints zer).toArray 75)).setCells (w2.heap.size + 1) 0 (ints G)) := run_store_grid _ _ HGL.out (by have h := (GrA.new (w2.alloc (.cells #[] 23)) 75 zer_len).there; have e : (w2.alloc (.cells #[] 23)).heap.size = w2.heap.size + 1 := (by simp); rw [e] at h; exact h))
    | (refine wpList_alloc_z _ rfl 75 rfl _ HZG.out.1 ?_))
  obtain ⟨W0, hW0⟩ : ∃ W0, W0 = w2.alloc (.cells #[] 23) := ⟨_, rfl⟩
  have hz0 : W0.heap.size = w2.heap.size + 1 := by rw [hW0]; simp
  have ho0 : W0.ownsRow (w.heap.size + 1) 23 1 (.slice (some ⟨w2.heap.size, 0, none⟩) 0 0) 0 [] := by
    rw [hW0]
    exact World.ownsRow_lit (base := w.heap.size + 1) (e := 23) (size := 1) w2 #[] 0 (by have := HB2.out.size; omega) (by unfold maxLen; omega) rfl
  have hb0 : Below w1.heap.size w1 W0 := by rw [hW0]; exact HB2.out.alloc HB2.out.size _
  rw [← hW0]
  have hgn := GrA.new W0 75 zer_len
  rw [hz0] at hgn
  have hG1 : GrA ((W0.alloc (.cells (ints zer).toArray 75)).setCells (w2.heap.size + 1) 0 (ints G)) (w2.heap.size + 1) G := GrA.of HGL.out hgn.there hgn.lt
  have hgr := grown_setCells (w2.heap.size + 1) (ints G) 0 (W0.alloc (.cells (ints zer).toArray 75))
  have hA0 : Below W0.heap.size W0 (W0.alloc (.cells (ints zer).toArray 75)) := (Below.refl _ _).alloc (Nat.le_refl _) _
  have ho1 := own_grownW (own_belowW ho0 hA0) hgr (by omega)
  have hz12 := HB2.out.size
  have hb1' : Below w1.heap.size w1 ((W0.alloc (.cells (ints zer).toArray 75)).setCells (w2.heap.size + 1) 0 (ints G)) := Below.grown (hb0.trans (hA0.mono (by omega))) hgr (by simp; omega) (fun b hb => by cases hb; omega)
  obtain ⟨W1, hW1⟩ : ∃ W1, W1 = ((W0.alloc (.cells (ints zer).toArray 75)).setCells (w2.heap.size + 1) 0 (ints G)) := ⟨_, rfl⟩
  have hzW1 : w2.heap.size + 2 ≤ W1.heap.size := by rw [hW1, size_setCells]; simp; omega
  rw [← hW1] at hG1 ho1 hb1' ⊢
  have HG1 := Lib.hid hG1
  have HO1 : Hid (TbOwn (w.heap.size + 1) W1.heap.size W1 23 3 (.slice (some ⟨w2.heap.size, 0, none⟩) 0 0) 0 [] (rowsT E 0)) := TbOwn.nil (Own.of ho1)
  have HBB : Hid (Below w1.heap.size w1 W1) := hb1'
  have HQ1 : Hid (∀ W, Below w1.heap.size w1 W → W.cell? ⟨w.heap.size, 0, none⟩ = some (.int .i64 m.size) ∧ W.cell? ⟨w.heap.size, 1, none⟩ = some (.slice ad m.gates.length cd) ∧ W.cell? ⟨w.heap.size, 2, none⟩ = some (.slice ak m.pulls.length ck) ∧ Below w.heap.size w W) := fun W hW => ⟨(hW.cell (p := ⟨w.heap.size, 0, none⟩) z1).trans q0, (hW.cell (p := ⟨w.heap.size, 1, none⟩) z1).trans q1, (hW.cell (p := ⟨w.heap.size, 2, none⟩) z1).trans q2, below_then HB1.out hW⟩
  obtain ⟨p0, p1, p2, -⟩ := HQ1.out W1 HBB.out
  clear hW0 hz0 ho0 hb0 hgn hgr hA0 ho1 hb1' hW1 hG1 hst q0 q1 q2 HQ
  go_wp2
  go_loopw [17, 5] (fun kv tv wr => ∃ (k g c : Nat) (vs : List Value), kv = .int .i64 k ∧ k ≤ n ∧ tv = .slice (some ⟨g, 0, none⟩) k c ∧ g ≠ w2.heap.size + 1 ∧ w2.heap.size + 2 ≤ wr.heap.size ∧ Hid (TbOwn (w.heap.size + 1) wr.heap.size wr 23 3 (.slice (some ⟨g, 0, none⟩) k c) k vs (rowsT E k)) ∧ Hid (GrA wr (w2.heap.size + 1) G) ∧ Hid (Below (w.heap.size + 1) w1 wr)) (fun kv _ _ => n - (intOf kv).toNat)
  case atStart => exact ⟨0, w2.heap.size, 0, [], rfl, Nat.zero_le _, rfl, by omega, hzW1, HO1, HG1, HBB.out.mono (by omega)⟩
  case round =>
    clear HO1 HG1 HBB p0 p1 p2
    obtain ⟨wo, rfl⟩ : ∃ wo : World, wo = wr := ⟨_, rfl⟩
    obtain ⟨k, g, c, vs, rfl, hk, rfl, hgne, hzo, HO, HG, HB⟩ := hrel
    by_cases hlt : k < n
    · have hkI : (k : Int) < m.size := by omega
      have hkn : k < 12 := by omega
      have hA : Below wo.heap.size wo (wo.alloc (.cells #[.int .i64 (k : Int)] 3)) := (Below.refl _ _).alloc (Nat.le_refl _) _
      have HA := Lib.hid hA
      have HGA : Hid (GrA (wo.alloc (.cells #[.int .i64 (k : Int)] 3)) (w2.heap.size + 1) G) := HG.out.later hA
      have hqx : (wo.alloc (.cells #[.int .i64 (k : Int)] 3)).cell? ⟨wo.heap.size, 0, none⟩ = some (.int .i64 (k : Int)) := by simp [go_sem]
      have HQX := Lib.hid hqx
      have HCALL : Hid (Calls Try.prog 61 #[.func (.func 62) #[] #[.pointer (some ⟨w2.heap.size + 1, 0, none⟩), .pointer (some ⟨wo.heap.size, 0, none⟩)]] (wo.alloc (.cells #[.int .i64 (k : Int)] 3)) fun e w' => ∃ u, e = .returned u ∧ w'.ownsRow (wo.alloc (.cells #[.int .i64 (k : Int)] 3)).heap.size 3 1 u (rowN E k).length (ints (natsI (rowN E k))) ∧ Below (wo.alloc (.cells #[.int .i64 (k : Int)] 3)).heap.size (wo.alloc (.cells #[.int .i64 (k : Int)] 3)) w') :=
        thoseG_c 62 Try.f62 Try.func62 (by kernel_rfl) rfl #[.pointer (some ⟨w2.heap.size + 1, 0, none⟩), .pointer (some ⟨wo.heap.size, 0, none⟩)] (rchB E k) _ (fun s hs W hW => reachClo_c (w2.heap.size + 1) wo.heap.size k s G E W (HGA.out.later hW) HGE.out (by omega) hs ((hW.cell (p := ⟨wo.heap.size, 0, none⟩) (by simp)).trans HQX.out))
      have hrl : (rowN E k).length ≤ 64 := thoseN_len _ _
      obtain ⟨rn, hrn⟩ : ∃ rn, rn = (rowN E k).length := ⟨_, rfl⟩
      rw [← hrn] at HCALL hrl
      have HRN := Lib.hid hrn
      clear hA hqx hrn
      go_wp2_with (first | (at_builtin; refine wpList_append_lies _ rfl _ _ 44 rfl (w.heap.size + 1) 23 s0 (.slice none 0 0) 1 24 Try.underlying44 si sz0 sz1 sz2 rfl (by decide) (.slice (some ⟨g, 0, none⟩) k c) _ _ rfl HO3.out ⟨w3.heap.size, 0, none⟩ 1 1 [.slice a3 rn c3] rfl rfl ?_ ?_ (by omega) ?_ ?_ ?_ (w3.heap.size + 1) ?_ ?_; (exact cell_one_new _ _ _); (simp [Value.oneCell']); (unfold maxLen; omega); omega; (simp; omega); (simp); intro g5 c5 w5 hown5 hgrow5 hat5 hlt5) | (go_at_call 61; refine HCALL.out.mono ?_; rintro e w3 ⟨u3, rfl, ho3, hb3⟩; obtain ⟨a3, c3, rfl⟩ := own_slice ho3; have HB3 : Hid (Below wo.heap.size wo w3) := HA.out.trans (hb3.mono (by simp)); have hz3 : wo.heap.size ≤ w3.heap.size := HB3.out.size; have HT3 : Hid (TbOwn (w.heap.size + 1) wo.heap.size (w3.alloc (.cells #[.slice a3 rn c3] 23)) 23 3 (.slice (some ⟨g, 0, none⟩) k c) k vs (rowsT E k)) := (HO.out.later HB3.out (Nat.le_refl _)).later (((Below.refl _ _).alloc (Nat.le_refl _) _).mono hz3) (Nat.le_refl _); have HO3 : Hid (World.ownsRow (w3.alloc (.cells #[.slice a3 rn c3] 23)) (w.heap.size + 1) 23 1 (.slice (some ⟨g, 0, none⟩) k c) k vs) := HT3.out.row.row; have HN3 : Hid (Own (wo.heap.size + 1) w3.heap.size (w3.alloc (.cells #[.slice a3 rn c3] 23)) 3 1 (.slice a3 rn c3) rn (ints (natsI (rowN E k)))) := ((Own.of ho3).later ((Below.refl _ _).alloc (Nat.le_refl _) _) (Nat.le_refl _)).mono (by simp) (Nat.le_refl _); clear ho3 hb3))
      have hA5 : Below w3.heap.size w3 (w3.alloc (.cells #[.slice a3 rn c3] 23)) := (Below.refl _ _).alloc (Nat.le_refl _) _
      have hgr5 : World.grownBy (w3.alloc (.cells #[.slice a3 rn c3] 23)) w5 (some g) := hgrow5
      have hg5 : g5 = g ∨ g5 = w3.heap.size + 1 := by rcases hat5 with h | h <;> first | exact .inr h | (left; symm; simpa [Value.ownBlock] using h)
      have hgl := own_block_lo HO.out.row.row (g := g) rfl
      have hgt := HO.out.row.top g rfl
      have HG5 : Hid (GrA w5 (w2.heap.size + 1) G) := ((HG.out.later HB3.out).later hA5).grown hgr5 (by simp; omega)
      have HO5 : Hid (TbOwn (w.heap.size + 1) w5.heap.size w5 23 3 (.slice (some ⟨g5, 0, none⟩) (k + 1) c5) (k + 1) (vs ++ [.slice a3 rn c3]) (rowsT E (k + 1))) := by
        rw [rowsT_snoc]
        refine HT3.out.push (by simp; omega) ?_ (fun i hi b hb e => ?_) (fun e => ?_) hown5 hgr5 (by rcases hg5 with h | h; exact .inl h.symm; exact .inr (by simp; omega))
        · rw [natsI_len, ← HRN.out]
          exact HN3.out.mono (by omega) (by simp)
        · have h1 := (HT3.out.each i hi).top b hb
          have h2 := own_block_lo HN3.out.row e
          omega
        · have h2 := own_block_lo HN3.out.row e
          omega
      have HB5 : Hid (Below (w.heap.size + 1) w1 w5) := Below.grown ((HB.out.trans (HB3.out.mono (by omega))).trans (hA5.mono (by omega))) hgr5 (by have := HX1.out.size; simp at this; have := HB.out.size; simp; omega) (fun b hb => by cases hb; exact hgl)
      have hz5 : w3.heap.size + 1 ≤ w5.heap.size := by have := hgr5.size; simpa using this
      clear hown5 hgrow5 hat5 hgr5 HO3 HT3 HN3
      go_wp2
      go_roundw
      case rel => exact ⟨k + 1, g5, c5, vs ++ [.slice a3 rn c3], by go_num, by omega, rfl, by omega, by omega, HO5, HG5, HB5⟩
      case measure => simp [intOf]; omega
    · obtain rfl : n = k := by omega
      have hnI : decide ((n : Int) < m.size) = false := by simp; omega
      have HOF : Hid (TbOwn w.heap.size wo.heap.size wo 23 3 (.slice (some ⟨g, 0, none⟩) n c) n vs (rowsT E n)) := HO.out.mono (by omega) (Nat.le_refl _)
      have HBF : Hid (Below w.heap.size w wo) := HB1.out.trans (HB.out.mono (by omega))
      go_wp2
      go_ret2
      exact ⟨_, _, _, rfl, HOF.out, HBF.out⟩
theorem implReachTable_c (v : Value) (m : Wk) (w : World) (R : List (List Int)) (b : Bool) (hp : pReachTable m = (R, b)) (hm : WkAt w v m) : Calls Try.prog 26 #[v] w fun e w' => ∃ ag cg vs eS eI, e = .returned (.tuple #[.slice ag R.length cg, .bool b]) ∧ TbOwn w.heap.size w'.heap.size w' eS eI (.slice ag R.length cg) R.length vs R ∧ Below w.heap.size w w' := by
  have hM := hm
  obtain ⟨⟨ad, cd, ak, ck, rfl, hd, hk'⟩, nd, nk⟩ := hM
  cases b1 : worksB m
  · have : R = [] ∧ b = false := by unfold pReachTable at hp; rw [b1] at hp; simpa [eq_comm] using hp
    obtain ⟨rfl, rfl⟩ := this
    refine (reachNo_c m ad ak cd ck w hm b1).mono ?_
    rintro e w' ⟨rfl, hb⟩
    exact ⟨none, 0, [], 0, 0, rfl, TbOwn.nil ⟨⟨rfl, .inl ⟨rfl, rfl⟩⟩, fun g hg => by cases hg⟩, hb⟩
  · have : R = rowsT (reachF m) m.pulls.length ∧ b = true := by unfold pReachTable at hp; rw [b1] at hp; simpa [eq_comm] using hp
    obtain ⟨rfl, rfl⟩ := this
    refine (reachTab_c m ad ak cd ck m.pulls.length rfl w hm b1).mono ?_
    rintro e w' ⟨g, c, vs, rfl, ho, hb⟩
    rw [rowsT_len]
    exact ⟨_, _, vs, _, _, rfl, ho, hb⟩
set_option maxRecDepth 100000 in
set_option maxHeartbeats 16000000 in
theorem specReachY_c (m : Wk) (ad ak : Option Addr) (cd ck n : Nat) (hn : n = m.pulls.length) (w : World) (hm : WkAt w (.agg #[.int .i64 m.size, .slice ad m.gates.length cd, .slice ak m.pulls.length ck]) m) (b1 : worksB m = true) :
    Calls Try.prog 25 #[(.agg #[.int .i64 m.size, .slice ad m.gates.length cd, .slice ak m.pulls.length ck])] w fun e w' => ∃ aw cw, e = .returned (.tuple #[.slice aw n cw, .bool true]) ∧ TbAt w' aw (rowsT (reachF m) n) ∧ Below w.heap.size w w' := by
  obtain ⟨si0, si, ssz0, ssz1, ssz2⟩ := info_parts infoSl
  obtain ⟨i0, ji, jz0, jz1, jz2⟩ := info_parts infoI
  have OK := Lib.hid (worksB_true.1 b1)
  have hnp := OK.out.np
  have hs2 := OK.out.s2
  have hs1 := OK.out.s1
  have hsn1 : m.size ≤ (n : Int) := by omega
  have hsn2 : (n : Int) ≤ m.size := by omega
  have hn12 : n ≤ 12 := by omega
  obtain ⟨nn, hnn⟩ : ∃ nn, nn = n * 64 := ⟨_, rfl⟩
  obtain ⟨E, hE⟩ : ∃ E, E = reachF m := ⟨_, rfl⟩
  rw [← hE]
  have hx0 : ((0 : Nat) : Int) < m.size := by omega
  have HSP : Hid (∀ W, WkAt W (.agg #[.int .i64 m.size, .slice ad m.gates.length cd, .slice ak m.pulls.length ck]) m → Calls Try.prog 51 #[(.agg #[.int .i64 m.size, .slice ad m.gates.length cd, .slice ak m.pulls.length ck]), .int .i64 0, .int .i64 0, .bool false] W fun e w' => ∃ a c, e = .returned (.slice (some ⟨a, 0, none⟩) nn c) ∧ IC w' (some ⟨a, 0, none⟩) (gridN nn E) ∧ Below W.heap.size W w') := by
    intro W hW
    have := l8Spread_c m ad ak cd ck 0 0 nn W hW OK.out hx0 (by omega) (by rw [hnn, hn])
    rw [hE]
    exact this
  have HGL : Hid (∀ i, i < nn → (gridN nn E)[i]! = bD E i) := fun i hi => gridN_at nn E hi
  have hnn2 : nn ≤ 768 := by omega
  have HNN := Lib.hid hnn
  clear hE hnn hx0 hnp hn
  go_enter Try.func25, Try.ntmps25
  go_wp2_with fail
  refine (l8Works_c _ m _ (hm.later (by (repeat (first | exact Below.refl _ _ | apply Below.drew | apply below_drewN | (refine Below.setCell ?_ (by first | omega | (simp; done) | (simp; omega) | (dsimp only; omega)) _) | (refine Below.alloc ?_ (by first | omega | (simp; done) | (simp; omega) | (dsimp only; omega)) _)))))).mono ?_
  rintro e w1 ⟨rfl, hb1⟩
  have HB1 : Hid (Below w.heap.size w w1) := below_then (by (repeat (first | exact Below.refl _ _ | apply Below.drew | apply below_drewN | (refine Below.setCell ?_ (by first | omega | (simp; done) | (simp; omega) | (dsimp only; omega)) _) | (refine Below.alloc ?_ (by first | omega | (simp; done) | (simp; omega) | (dsimp only; omega)) _)))) hb1
  have HX1 : Hid (Below (w.heap.size + 1) (w.alloc (.cells #[.int .i64 m.size, .slice ad m.gates.length cd, .slice ak m.pulls.length ck] 40)) w1) := ((Below.refl (w.heap.size + 1) _).alloc (by simp) _).trans (hb1.mono (by simp))
  have HE1 : Hid (w1.ownsRow (w.heap.size + 1) 23 1 (.slice (some ⟨w.heap.size + 1, 0, none⟩) 0 0) 0 []) := by
    have h := World.ownsRow_lit (base := w.heap.size + 1) (e := 23) (size := 1) (w.alloc (.cells #[.int .i64 m.size, .slice ad m.gates.length cd, .slice ak m.pulls.length ck] 40)) #[] 0 (by simp) (by unfold maxLen; omega) rfl
    rw [World.size_alloc] at h
    exact own_belowW h hb1
  rw [b1]
  obtain ⟨q0, q1, q2, z1⟩ := box3W HX1.out (by omega)
  clear hb1
  go_wp2_with fail
  refine (HSP.out _ (hm.later HB1.out)).mono ?_
  rintro e w2 ⟨a2, c2, rfl, hi2, hb2⟩
  have HI2 := Lib.hid hi2
  have HB2 : Hid (Below w.heap.size w w2) := below_then HB1.out hb2
  have HX2 : Hid (Below w1.heap.size w1 w2) := hb2
  clear hi2 hb2
  have HQ1 : Hid (∀ W, Below w1.heap.size w1 W → W.cell? ⟨w.heap.size, 0, none⟩ = some (.int .i64 m.size)) := fun W hW => (hW.cell (p := ⟨w.heap.size, 0, none⟩) z1).trans q0
  have HQ3 : Hid (∀ W, Below (w.heap.size + 1) w1 W → W.cell? ⟨w.heap.size, 0, none⟩ = some (.int .i64 m.size)) := fun W hW => (hW.cell (p := ⟨w.heap.size, 0, none⟩) (Nat.lt_succ_self _)).trans q0
  have HO2 : Hid (TbOwn (w.heap.size + 1) w2.heap.size w2 23 3 (.slice (some ⟨w.heap.size + 1, 0, none⟩) 0 0) 0 [] (rowsT E 0)) := TbOwn.nil (Own.of (own_belowW HE1.out HX2.out))
  have hne2 : a2 ≠ w.heap.size + 1 := by
    rintro rfl
    have h1 := own_nil_no (own_belowW HE1.out HX2.out)
    have hn1 : 0 < nn := by have := HNN.out; omega
    obtain ⟨b4, o4, he4, hz4, hc4⟩ := HI2.out 0 (by rw [gridN_len]; exact hn1)
    cases he4
    rw [h1] at hc4; cases hc4
  have ha2 : a2 < w2.heap.size := by
    have hn1 : 0 < nn := by have := HNN.out; omega
    obtain ⟨b4, o4, he4, hz4, hc4⟩ := HI2.out 0 (by rw [gridN_len]; exact hn1)
    cases he4
    exact hz4
  have HX3 : Hid (Below (w.heap.size + 1) w1 w2) := HX2.out.mono (by omega)
  have q0' := HQ1.out w2 HX2.out
  go_wp2
  go_loopw [4, 6] (fun tv kv wr => ∃ (k g c : Nat) (vs : List Value), kv = .int .i64 k ∧ k ≤ n ∧ tv = .slice (some ⟨g, 0, none⟩) k c ∧ Hid (TbOwn (w.heap.size + 1) wr.heap.size wr 23 3 (.slice (some ⟨g, 0, none⟩) k c) k vs (rowsT E k)) ∧ g ≠ a2 ∧ a2 < wr.heap.size ∧ Hid (IC wr (some ⟨a2, 0, none⟩) (gridN nn E)) ∧ Hid (Below (w.heap.size + 1) w1 wr)) (fun _ kv _ => n - (intOf kv).toNat)
  case atStart => exact ⟨0, w.heap.size + 1, 0, [], rfl, Nat.zero_le _, rfl, HO2, fun h => hne2 h.symm, ha2, HI2, HX3⟩
  case round =>
    clear HO2 HE1 HI2 q0 q1 q2 q0' hne2 ha2
    obtain ⟨wo, rfl⟩ : ∃ wo : World, wo = wr := ⟨_, rfl⟩
    obtain ⟨k, g, c, vs, rfl, hk, rfl, HO, hgne, ha2, HI, HB⟩ := hrel
    have q0 : wo.cell? ⟨w.heap.size, 0, none⟩ = some (.int .i64 m.size) := HQ3.out wo HB.out
    have hzo : w.heap.size + 1 ≤ wo.heap.size := by have h1 := HB.out.size; omega
    by_cases hlt : k < n
    · have hkI : (k : Int) < m.size := by omega
      have hk12 : k < 12 := by omega
      have HR0 : Hid ((wo.alloc (.cells #[] 3)).ownsRow wo.heap.size 3 1 (.slice (some ⟨wo.heap.size, 0, none⟩) 0 0) (thoseN (rchB E k) 0).length (ints (natsI (thoseN (rchB E k) 0)))) := World.ownsRow_lit (base := wo.heap.size) (e := 3) (size := 1) wo #[] 0 (Nat.le_refl _) (by unfold maxLen; omega) rfl
      go_wp2
      go_loopw [7, 8] (fun u lv wi => ∃ l : Nat, lv = .int .i64 l ∧ l ≤ 64 ∧ Hid (wi.ownsRow wo.heap.size 3 1 u (thoseN (rchB E k) l).length (ints (natsI (thoseN (rchB E k) l)))) ∧ Hid (Below wo.heap.size wo wi)) (fun _ lv _ => 64 - (intOf lv).toNat)
      case atStart => exact ⟨0, rfl, by omega, HR0, (Below.refl _ _).alloc (Nat.le_refl _) _⟩
      case round =>
        clear HR0 q0
        obtain ⟨wi, rfl⟩ : ∃ wi : World, wi = wr := ⟨_, rfl⟩
        obtain ⟨l, rfl, hl, HR, HBi⟩ := hrel
        obtain ⟨aM, cM, rfl⟩ := own_slice HR.out
        have hzi := HBi.out.size
        by_cases hlt2 : l < 64
        · have hlI : (l : Int) < 64 := by omega
          obtain ⟨b4, o4, he4, hz4, hc4⟩ := (HI.out.later HBi.out) (k * 64 + l) (by rw [gridN_len]; have := HNN.out; omega)
          cases he4
          rw [HGL.out _ (by have := HNN.out; omega), Nat.zero_add] at hc4
          have hlen := thoseN_len (rchB E k) l
          obtain ⟨ix, hix⟩ : ∃ ix, ix = k * 64 + l := ⟨_, rfl⟩
          rw [← hix] at hc4
          have hixn : ix < nn := by have := HNN.out; omega
          have HIX := Lib.hid hix
          by_cases h : 0 ≤ bD E ix
          · have HN : Hid (thoseN (rchB E k) (l + 1) = thoseN (rchB E k) l ++ [l]) := thoseN_yes (by unfold rchB; rw [← hix]; exact decide_eq_true h)
            obtain ⟨rv, hrv⟩ : ∃ rv, rv = bD E ix := ⟨_, rfl⟩
            rw [← hrv] at hc4 h
            have hd1 : decide (0 ≤ rv) = true := decide_eq_true h
            clear hrv hix
            go_wp2_with (first | (go_at_call 59; refine (l4Id_c k l ix HIX.out (by omega) (by omega) _).mono ?_; rintro e w5 ⟨rfl, rfl⟩) | (at_builtin; refine wpList_append_own _ rfl _ _ 23 rfl wo.heap.size 3 i0 (.int .i64 0) 1 8 Try.underlying23 ji jz0 jz1 jz2 rfl (by decide) _ _ _ rfl (HR.out.alloc _) ⟨wi.heap.size, 0, none⟩ 1 1 [.int .i64 l] rfl rfl ?_ ?_ ?_ ?_ ?_ ?_; (exact cell_one_new _ _ _); (simp [Value.oneCell']); (unfold maxLen; omega); omega; (simp; omega); intro v' w3 hown' hgrow _))
            go_roundw
            case rel => exact ⟨l + 1, by go_num, by omega, by rw [HN.out, natsI_snoc, ints_snoc, List.length_append]; exact hown', (HBi.out.alloc hzi _).grown hgrow (by simp; omega) (fun g hg => own_block_lo HR.out hg)⟩
            case measure => simp [intOf]; omega
          · have HN : Hid (thoseN (rchB E k) (l + 1) = thoseN (rchB E k) l) := thoseN_no (by unfold rchB; rw [← hix]; exact decide_eq_false h)
            obtain ⟨rv, hrv⟩ : ∃ rv, rv = bD E ix := ⟨_, rfl⟩
            rw [← hrv] at hc4 h
            have hd1 : decide (0 ≤ rv) = false := decide_eq_false h
            clear hrv hix
            go_wp2_with (go_at_call 59; refine (l4Id_c k l ix HIX.out (by omega) (by omega) _).mono ?_; rintro e w5 ⟨rfl, rfl⟩)
            go_roundw
            case rel => exact ⟨l + 1, by go_num, by omega, by rw [HN.out]; exact HR, HBi⟩
            case measure => simp [intOf]; omega
        · obtain rfl : l = 64 := by omega
          have hrl := thoseN_len (rchB E k) 64
          obtain ⟨rn, hrn⟩ : ∃ rn, rn = (thoseN (rchB E k) 64).length := ⟨_, rfl⟩
          have HRN : Hid (rn = (rowN E k).length) := hrn
          have HR2 : Hid (wi.ownsRow wo.heap.size 3 1 (.slice aM rn cM) rn (ints (natsI (rowN E k)))) := by rw [hrn]; exact HR.out
          rw [← hrn] at hrl ⊢
          clear HR hrn
          have hgl := own_block_lo HO.out.row.row (g := g) rfl
          have hgt := HO.out.row.top g rfl
          have HT3 : Hid (TbOwn (w.heap.size + 1) wo.heap.size (wi.alloc (.cells #[.slice aM rn cM] 23)) 23 3 (.slice (some ⟨g, 0, none⟩) k c) k vs (rowsT E k)) := (HO.out.later HBi.out (Nat.le_refl _)).later (((Below.refl _ _).alloc (Nat.le_refl _) _).mono hzi) (Nat.le_refl _)
          have HO3 : Hid (World.ownsRow (wi.alloc (.cells #[.slice aM rn cM] 23)) (w.heap.size + 1) 23 1 (.slice (some ⟨g, 0, none⟩) k c) k vs) := HT3.out.row.row
          have HN3 : Hid (Own wo.heap.size wi.heap.size (wi.alloc (.cells #[.slice aM rn cM] 23)) 3 1 (.slice aM rn cM) rn (ints (natsI (rowN E k)))) := (Own.of HR2.out).later ((Below.refl _ _).alloc (Nat.le_refl _) _) (Nat.le_refl _)
          have HA5 : Hid (Below wi.heap.size wi (wi.alloc (.cells #[.slice aM rn cM] 23))) := (Below.refl _ _).alloc (Nat.le_refl _) _
          go_wp2_with (at_builtin; refine wpList_append_lies _ rfl _ _ 44 rfl (w.heap.size + 1) 23 si0 (.slice none 0 0) 1 24 Try.underlying44 si ssz0 ssz1 ssz2 rfl (by decide) (.slice (some ⟨g, 0, none⟩) k c) _ _ rfl HO3.out ⟨wi.heap.size, 0, none⟩ 1 1 [.slice aM rn cM] rfl rfl ?_ ?_ (by omega) ?_ ?_ ?_ (wi.heap.size + 1) ?_ ?_; (exact cell_one_new _ _ _); (simp [Value.oneCell']); (unfold maxLen; omega); omega; (simp; omega); (simp); intro g5 c5 w5 hown5 hgrow5 hat5 hlt5)
          have hgr5 : World.grownBy (wi.alloc (.cells #[.slice aM rn cM] 23)) w5 (some g) := hgrow5
          have hg5 : g5 = g ∨ g5 = wi.heap.size + 1 := by rcases hat5 with h | h <;> first | exact .inr h | (left; symm; simpa [Value.ownBlock] using h)
          have hz5 : wi.heap.size + 1 ≤ w5.heap.size := by have := hgr5.size; simpa using this
          have HO5 : Hid (TbOwn (w.heap.size + 1) w5.heap.size w5 23 3 (.slice (some ⟨g5, 0, none⟩) (k + 1) c5) (k + 1) (vs ++ [.slice aM rn cM]) (rowsT E (k + 1))) := by
            rw [rowsT_snoc]
            refine HT3.out.push (by simp; omega) ?_ (fun i hi b hb e => ?_) (fun e => ?_) hown5 hgr5 (by rcases hg5 with h | h; exact .inl h.symm; exact .inr (by simp; omega))
            · rw [natsI_len, ← HRN.out]
              exact HN3.out.mono (by omega) (by simp)
            · have h1 := (HT3.out.each i hi).top b hb
              have h2 := own_block_lo HN3.out.row e
              omega
            · have h2 := own_block_lo HN3.out.row e
              omega
          have HI5 : Hid (IC w5 (some ⟨a2, 0, none⟩) (gridN nn E)) := ic_grown2T (n := nn) (c := nn) ((HI.out.later HBi.out).later HA5.out) hgr5 (fun b hb _ e => by have h1 : a2 = b := (by simpa [Value.ownBlock] using hb); have h2 : g = b := (by simpa using e); omega)
          have HB5 : Hid (Below (w.heap.size + 1) w1 w5) := Below.grown ((HB.out.trans (HBi.out.mono (by omega))).trans (HA5.out.mono (by omega))) hgr5 (by have h1 := HX1.out.size; have h2 := HB.out.size; simp at h1 ⊢; omega) (fun b hb => by cases hb; exact hgl)
          clear hown5 hgrow5 hat5 hgr5 HO3 HT3 HN3
          go_wp2
          go_roundw
          case rel => exact ⟨k + 1, g5, c5, vs ++ [.slice aM rn cM], by go_num, by omega, rfl, HO5, by omega, by omega, HI5, HB5⟩
          case measure => simp [intOf]; omega
    · obtain rfl : n = k := by omega
      have hnI : decide ((n : Int) < m.size) = false := by simp; omega
      have HOF : Hid (TbAt wo (some ⟨g, 0, none⟩) (rowsT E n)) := HO.out.tb
      have HBF : Hid (Below w.heap.size w wo) := HB1.out.trans (HB.out.mono (by omega))
      go_wp2
      go_ret2
      exact ⟨_, _, rfl, HOF.out, HBF.out⟩
set_option maxHeartbeats 4000000 in
theorem specReachTable_c (v : Value) (m : Wk) (w : World) (R : List (List Int)) (b : Bool) (hp : pReachTable m = (R, b)) (hm : WkAt w v m) : Calls Try.prog 25 #[v] w fun e w' => ∃ aw cw, e = .returned (.tuple #[.slice aw R.length cw, .bool b]) ∧ TbAt w' aw R ∧ Below w.heap.size w w' := by
  have hM := hm
  obtain ⟨⟨ad, cd, ak, ck, rfl, hd, hk'⟩, nd, nk⟩ := hM
  cases b1 : worksB m
  case false =>
    have : R = [] ∧ b = false := by unfold pReachTable at hp; rw [b1] at hp; simpa [eq_comm] using hp
    obtain ⟨rfl, rfl⟩ := this
    clear hp
    go_enter Try.func25, Try.ntmps25
    go_wp2_with (go_at_call 48; refine (l8Works_c _ m _ (hm.later (by (repeat (first | exact Below.refl _ _ | apply Below.drew | apply below_drewN | (refine Below.setCell ?_ (by first | omega | (simp; done) | (simp; omega) | (dsimp only; omega)) _) | (refine Below.alloc ?_ (by first | omega | (simp; done) | (simp; omega) | (dsimp only; omega)) _)))))).mono ?_; rintro e w1 ⟨rfl, hb1⟩; have HB1 : Hid (Below w.heap.size w w1) := below_then (by (repeat (first | exact Below.refl _ _ | apply Below.drew | apply below_drewN | (refine Below.setCell ?_ (by first | omega | (simp; done) | (simp; omega) | (dsimp only; omega)) _) | (refine Below.alloc ?_ (by first | omega | (simp; done) | (simp; omega) | (dsimp only; omega)) _)))) hb1; rw [b1])
    go_ret2
    exact ⟨_, _, rfl, fun k hk => by simp at hk, HB1.out⟩
  case true =>
    have : R = rowsT (reachF m) m.pulls.length ∧ b = true := by unfold pReachTable at hp; rw [b1] at hp; simpa [eq_comm] using hp
    obtain ⟨rfl, rfl⟩ := this
    refine (specReachY_c m ad ak cd ck m.pulls.length rfl w hm b1).mono ?_
    rintro e w' ⟨aw, cw, rfl, ht, hb⟩
    rw [rowsT_len]
    exact ⟨_, _, rfl, ht, hb⟩
end Go.Proofs.Ytldogbahbjompaa
