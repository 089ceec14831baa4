/- impl.TurnLevers. spec.TurnLevers. Both sides of TurnLevers; how long the answer is. -/
import Derived.Test.YtmilpahggceemaaKpFp8
import Derived.Test.YtmilpahggceemaaKpFp1
import Derived.Test.YtmilpahggceemaaKpFp7
import Derived.Test.YtmilpahggceemaaKpFp2
import Derived.Deep.DeepCutAuto
import Derived.StillTailTactics
set_option linter.unusedVariables false
set_option linter.unusedSimpArgs false
namespace Go.KD
open Go.RowKit
theorem own_nilT (lo hi : Nat) (W : World) : WkOwn lo hi W (.agg #[.int .i64 0, .slice none 0 0, .slice none 0 0]) ⟨0, [], []⟩ :=
  ⟨0, 0, .slice none 0 0, .slice none 0 0, rfl, ⟨⟨rfl, .inl ⟨rfl, rfl⟩⟩, fun g hg => by cases hg⟩, ⟨⟨rfl, .inl ⟨rfl, rfl⟩⟩, fun g hg => by cases hg⟩, fun g hg => by cases hg⟩
/-- The world of impl.TurnLevers behind its copies. -/
structure TL3 (W : World) (e4 e1 : TypeId) (n bO lo2 hi2 lo3 hi3 ng np cd ck c2 c3 : Nat) (sz : Int) (ad ak a2 a3 : Option Addr) (G : List D4) (Pl : List Int) : Prop where
  six : Six W n (.int .i64 sz) (.slice ad ng cd) (.slice ak np ck) (.int .i64 0) (.slice none 0 0) (.slice none 0 0)
  o0 : W.cell? ⟨bO, 0, none⟩ = some (.int .i64 sz)
  o1 : W.cell? ⟨bO, 1, none⟩ = some (.slice a2 ng c2)
  o2 : W.cell? ⟨bO, 2, none⟩ = some (.slice a3 np c3)
  ob : bO < W.heap.size
  g : Own lo2 hi2 W e4 4 (.slice a2 ng c2) ng (c4 G)
  p : Own lo3 hi3 W e1 1 (.slice a3 np c3) np (ints Pl)
  gl : G.length = ng
  h2 : hi2 ≤ lo3
  h3 : hi3 ≤ W.heap.size
  h23 : lo3 ≤ hi3
  l2 : n + 2 ≤ lo2
  lb : n + 2 ≤ bO
  bd : (bO < lo2 ∨ hi2 ≤ bO) ∧ (bO < lo3 ∨ hi3 ≤ bO)
  l3 : n + 2 ≤ lo3
theorem TL3.later {W W' : World} {e4 e1 : TypeId} {n bO lo2 hi2 lo3 hi3 ng np cd ck c2 c3 : Nat} {sz : Int} {ad ak a2 a3 : Option Addr} {G : List D4} {Pl : List Int} (h : TL3 W e4 e1 n bO lo2 hi2 lo3 hi3 ng np cd ck c2 c3 sz ad ak a2 a3 G Pl) (hb : Below W.heap.size W W') : TL3 W' e4 e1 n bO lo2 hi2 lo3 hi3 ng np cd ck c2 c3 sz ad ak a2 a3 G Pl := by
  have h1 := h.h2
  have h2 := h.h3
  have h3 := h.h23
  have hz := hb.size
  exact ⟨h.six.later hb, (hb.cell (p := ⟨bO, 0, none⟩) h.ob).trans h.o0, (hb.cell (p := ⟨bO, 1, none⟩) h.ob).trans h.o1, (hb.cell (p := ⟨bO, 2, none⟩) h.ob).trans h.o2, Nat.lt_of_lt_of_le h.ob hz, h.g.later hb (by omega), h.p.later hb h2, h.gl, h1, by omega, h3, h.l2, h.lb, h.bd, h.l3⟩
theorem TL3.row {W W' : World} {e4 e1 : TypeId} {n bO lo2 hi2 lo3 hi3 ng np cd ck c2 c3 : Nat} {sz : Int} {ad ak a2 a3 : Option Addr} {G G' : List D4} {Pl : List Int} (h : TL3 W e4 e1 n bO lo2 hi2 lo3 hi3 ng np cd ck c2 c3 sz ad ak a2 a3 G Pl) (hc : Chg lo2 hi2 W W') (hg : Own lo2 hi2 W' e4 4 (.slice a2 ng c2) ng (c4 G')) (hl : G'.length = ng) : TL3 W' e4 e1 n bO lo2 hi2 lo3 hi3 ng np cd ck c2 c3 sz ad ak a2 a3 G' Pl := by
  have h1 := h.h2
  have h2 := h.h3
  have h3 := h.h23
  have hz := hc.size
  have hl2 := h.l2
  have hs := h.six.sz
  refine ⟨?_, (hc.cell (p := ⟨bO, 0, none⟩) h.ob h.bd.1).trans h.o0, (hc.cell (p := ⟨bO, 1, none⟩) h.ob h.bd.1).trans h.o1, (hc.cell (p := ⟨bO, 2, none⟩) h.ob h.bd.1).trans h.o2, Nat.lt_of_lt_of_le h.ob hz, hg, h.p.chg hc (.inr h1), hl, h1, by omega, h3, hl2, h.lb, h.bd, h.l3⟩
  have c : ∀ b o, b < n + 2 → W'.cell? ⟨b, o, none⟩ = W.cell? ⟨b, o, none⟩ := fun b o hb => hc.cell (p := ⟨b, o, none⟩) (by show b < _; omega) (.inl (by show b < _; omega))
  have f : ∀ b o, b < n + 2 → W'.frozen? ⟨b, o, none⟩ = W.frozen? ⟨b, o, none⟩ := fun b o hb => World.frozen?_of_block (w := W) (hc.block b (by omega) (.inl (by omega)))
  exact ⟨(c _ _ (by omega)).trans h.six.a, (c _ _ (by omega)).trans h.six.b, (c _ _ (by omega)).trans h.six.c, (c _ _ (by omega)).trans h.six.x, (c _ _ (by omega)).trans h.six.y, (c _ _ (by omega)).trans h.six.z, (f _ _ (by omega)).trans h.six.fx, (f _ _ (by omega)).trans h.six.fy, (f _ _ (by omega)).trans h.six.fz, by omega⟩
theorem TL3.new {W : World} {e4 e1 T : TypeId} {n lo2 hi2 lo3 hi3 ng np cd ck c2 c3 : Nat} {sz : Int} {ad ak a2 a3 : Option Addr} {G : List D4} {Pl : List Int} (hs : Six W n (.int .i64 sz) (.slice ad ng cd) (.slice ak np ck) (.int .i64 0) (.slice none 0 0) (.slice none 0 0)) (hg : Own lo2 hi2 W e4 4 (.slice a2 ng c2) ng (c4 G)) (hp : Own lo3 hi3 W e1 1 (.slice a3 np c3) np (ints Pl)) (gl : G.length = ng) (h2 : hi2 ≤ lo3) (h3 : hi3 ≤ W.heap.size) (h23 : lo3 ≤ hi3) (l2 : n + 2 ≤ lo2) (l3 : n + 2 ≤ lo3) :
    TL3 (W.alloc (.cells #[.int .i64 sz, .slice a2 ng c2, .slice a3 np c3] T)) e4 e1 n W.heap.size lo2 hi2 lo3 hi3 ng np cd ck c2 c3 sz ad ak a2 a3 G Pl := by
  have hb : Below W.heap.size W (W.alloc (.cells #[.int .i64 sz, .slice a2 ng c2, .slice a3 np c3] T)) := (Below.refl _ _).alloc (Nat.le_refl _) _
  have hsz := hs.sz
  exact ⟨hs.later hb, by simp [go_sem], by simp [go_sem], by simp [go_sem], by simp, hg.later hb (by omega), hp.later hb h3, gl, h2, by simp; omega, h23, l2, by omega, ⟨.inr (by omega), .inr (by omega)⟩, l3⟩
theorem TL3.set {W : World} {e4 e1 : TypeId} {n bO lo2 hi2 lo3 hi3 ng np cd ck c2 c3 : Nat} {sz : Int} {ad ak a2 a3 : Option Addr} {G : List D4} {Pl : List Int} (hs : Six W n (.int .i64 sz) (.slice ad ng cd) (.slice ak np ck) (.int .i64 0) (.slice none 0 0) (.slice none 0 0)) (hg : Own lo2 hi2 W e4 4 (.slice a2 ng c2) ng (c4 G)) (hp : Own lo3 hi3 W e1 1 (.slice a3 np c3) np (ints Pl)) (gl : G.length = ng) (h2 : hi2 ≤ lo3) (h3 : hi3 ≤ W.heap.size) (h23 : lo3 ≤ hi3) (l2 : n + 2 ≤ lo2) (l3 : n + 2 ≤ lo3)
    (ob : bO < W.heap.size) (lb : n + 2 ≤ bO) (bd : (bO < lo2 ∨ hi2 ≤ bO) ∧ (bO < lo3 ∨ hi3 ≤ bO)) {x y z : Value} (t0 : W.cell? ⟨bO, 0, none⟩ = some x) (t1 : W.cell? ⟨bO, 1, none⟩ = some y) (t2 : W.cell? ⟨bO, 2, none⟩ = some z) :
    TL3 (((W.setCell ⟨bO, 0, none⟩ (.int .i64 sz)).setCell ⟨bO, 1, none⟩ (.slice a2 ng c2)).setCell ⟨bO, 2, none⟩ (.slice a3 np c3)) e4 e1 n bO lo2 hi2 lo3 hi3 ng np cd ck c2 c3 sz ad ak a2 a3 G Pl := by
  have k1 : Chg bO (bO + 1) W (W.setCell ⟨bO, 0, none⟩ (.int .i64 sz)) := Chg.of_grown (grown_setCell W ⟨bO, 0, none⟩ _) (fun g hg => by cases hg; exact ⟨Nat.le_refl _, Nat.lt_succ_self _⟩)
  have k2 : Chg bO (bO + 1) (W.setCell ⟨bO, 0, none⟩ (.int .i64 sz)) ((W.setCell ⟨bO, 0, none⟩ (.int .i64 sz)).setCell ⟨bO, 1, none⟩ (.slice a2 ng c2)) := Chg.of_grown (grown_setCell _ ⟨bO, 1, none⟩ _) (fun g hg => by cases hg; exact ⟨Nat.le_refl _, Nat.lt_succ_self _⟩)
  have k3 : Chg bO (bO + 1) ((W.setCell ⟨bO, 0, none⟩ (.int .i64 sz)).setCell ⟨bO, 1, none⟩ (.slice a2 ng c2)) (((W.setCell ⟨bO, 0, none⟩ (.int .i64 sz)).setCell ⟨bO, 1, none⟩ (.slice a2 ng c2)).setCell ⟨bO, 2, none⟩ (.slice a3 np c3)) := Chg.of_grown (grown_setCell _ ⟨bO, 2, none⟩ _) (fun g hg => by cases hg; exact ⟨Nat.le_refl _, Nat.lt_succ_self _⟩)
  have hc := (k1.trans k2).trans k3
  have hz : (((W.setCell ⟨bO, 0, none⟩ (.int .i64 sz)).setCell ⟨bO, 1, none⟩ (.slice a2 ng c2)).setCell ⟨bO, 2, none⟩ (.slice a3 np c3)).heap.size = W.heap.size := by simp
  have hs0 := hs.sz
  have o0 : (((W.setCell ⟨bO, 0, none⟩ (.int .i64 sz)).setCell ⟨bO, 1, none⟩ (.slice a2 ng c2)).setCell ⟨bO, 2, none⟩ (.slice a3 np c3)).cell? ⟨bO, 0, none⟩ = some (.int .i64 sz) := by
    rw [World.cell?_setCell_other _ _ _ _ (by simp), World.cell?_setCell_other _ _ _ _ (by simp), World.cell?_setCell_same' _ _ _ (by rw [t0]; rfl)]
  have o1 : (((W.setCell ⟨bO, 0, none⟩ (.int .i64 sz)).setCell ⟨bO, 1, none⟩ (.slice a2 ng c2)).setCell ⟨bO, 2, none⟩ (.slice a3 np c3)).cell? ⟨bO, 1, none⟩ = some (.slice a2 ng c2) := by
    rw [World.cell?_setCell_other _ _ _ _ (by simp), World.cell?_setCell_same' _ _ _ (by rw [World.cell?_setCell_other _ _ _ _ (by simp), t1]; rfl)]
  have o2 : (((W.setCell ⟨bO, 0, none⟩ (.int .i64 sz)).setCell ⟨bO, 1, none⟩ (.slice a2 ng c2)).setCell ⟨bO, 2, none⟩ (.slice a3 np c3)).cell? ⟨bO, 2, none⟩ = some (.slice a3 np c3) := by
    rw [World.cell?_setCell_same' _ _ _ (by rw [World.cell?_setCell_other _ _ _ _ (by simp), World.cell?_setCell_other _ _ _ _ (by simp), t2]; rfl)]
  obtain ⟨W', hW'⟩ : ∃ W', W' = ((W.setCell ⟨bO, 0, none⟩ (.int .i64 sz)).setCell ⟨bO, 1, none⟩ (.slice a2 ng c2)).setCell ⟨bO, 2, none⟩ (.slice a3 np c3) := ⟨_, rfl⟩
  rw [← hW'] at hc hz o0 o1 o2 ⊢
  have c : ∀ b o, b < n + 2 → W'.cell? ⟨b, o, none⟩ = W.cell? ⟨b, o, none⟩ := fun b o hb => hc.cell (p := ⟨b, o, none⟩) (by show b < _; omega) (.inl (by show b < _; omega))
  have f : ∀ b o, b < n + 2 → W'.frozen? ⟨b, o, none⟩ = W.frozen? ⟨b, o, none⟩ := fun b o hb => World.frozen?_of_block (w := W) (hc.block b (by omega) (.inl (by omega)))
  exact ⟨⟨(c _ _ (by omega)).trans hs.a, (c _ _ (by omega)).trans hs.b, (c _ _ (by omega)).trans hs.c, (c _ _ (by omega)).trans hs.x, (c _ _ (by omega)).trans hs.y, (c _ _ (by omega)).trans hs.z, (f _ _ (by omega)).trans hs.fx, (f _ _ (by omega)).trans hs.fy, (f _ _ (by omega)).trans hs.fz, by omega⟩, o0, o1, o2, by omega, hg.chg hc (by have := bd.1; omega), hp.chg hc (by have := bd.2; omega), gl, h2, by omega, h23, l2, lb, bd, l3⟩
def turnP (l : Int) (gs : List D4) (k : Nat) : List D4 := (gs.take k).map (turnG l) ++ gs.drop k
theorem turnP_len {l : Int} {gs : List D4} {k : Nat} (hk : k ≤ gs.length) : (turnP l gs k).length = gs.length := by unfold turnP; simp; omega
theorem turnP_at {l : Int} {gs : List D4} {k : Nat} (hk : k < gs.length) : (turnP l gs k)[k]! = gs[k]! := by
  unfold turnP
  rw [getElem!_pos _ k (by simp; omega), List.getElem_append_right (by simp; omega), getElem!_pos gs k hk]
  simp [Nat.min_eq_left (Nat.le_of_lt hk)]
theorem turnP_step {l : Int} {gs : List D4} {k : Nat} (hk : k < gs.length) : turnP l gs (k + 1) = (turnP l gs k).set k (turnG l gs[k]!) := by
  unfold turnP
  rw [take_snoc hk, List.map_append, List.set_append_right _ _ (by simp; omega)]
  rw [List.drop_eq_getElem_cons hk]
  have e : k - ((gs.take k).map (turnG l)).length = 0 := by simp; omega
  rw [e, List.set_cons_zero, List.append_assoc]; rfl
theorem turnP_all {l : Int} {gs : List D4} : turnP l gs gs.length = gs.map (turnG l) := by simp [turnP]
theorem c4_set3 {L : List D4} {k : Nat} (hk : k < L.length) (v : Int) : (c4 L).set (k * 4 + 3) (.int .i64 v) = c4 (L.set k ((L[k]!).1, (L[k]!).2.1, (L[k]!).2.2.1, v)) := by
  apply List.ext_getElem?
  intro j
  by_cases hj : j < L.length * 4
  · rw [get_c4Q _ j (by rw [List.length_set]; exact hj), List.getElem?_set]
    by_cases e : k * 4 + 3 = j
    · subst e
      rw [if_pos rfl, if_pos (by rw [length_c4]; exact hj), show (k * 4 + 3) / 4 = k by omega, show (k * 4 + 3) % 4 = 3 by omega, getElem!_pos _ k (by rw [List.length_set]; exact hk), List.getElem_set_self]; rfl
    · rw [if_neg e, get_c4Q _ j hj]
      by_cases e2 : j / 4 = k
      · subst e2
        rw [getElem!_pos (L.set _ _) _ (by rw [List.length_set]; exact hk), List.getElem_set_self]
        have h4 : j % 4 = 0 ∨ j % 4 = 1 ∨ j % 4 = 2 := by omega
        rcases h4 with h | h | h <;> rw [h] <;> rfl
      · rw [getElem!_pos (L.set _ _) _ (by rw [List.length_set]; omega), List.getElem_set_ne (fun h => e2 h.symm), getElem!_pos L _ (by omega)]
  · rw [List.getElem?_eq_none (by rw [List.length_set, length_c4]; omega), List.getElem?_eq_none (by rw [length_c4, List.length_set]; omega)]
end Go.KD
namespace Go.Proofs.Ytmilpahggceemaa
open Go.RowKit Go.KD
attribute [local go_sem] later_cell later_frozen
set_option maxRecDepth 100000 in
set_option maxHeartbeats 8000000 in
theorem implTurnLevers_c (v : Value) (m : Wk) (l : Int) (w : World) (R : Wk) (b : Bool) (hp : pTurnLevers m l = (R, b)) (hm : WkAt w v m) (wl : wfI l) :
    Calls Try.prog 32 #[v, .int .i64 l] w fun e w' => ∃ u, e = .returned (.tuple #[u, .bool b]) ∧ WkOwn w.heap.size w'.heap.size w' u R ∧ Below w.heap.size w w' := by
  have hM := hm
  obtain ⟨⟨ad, cd, ak, ck, rfl, hd, hk'⟩, nd, nk⟩ := hM
  have H6 : Six ((w.alloc (.cells #[.int .i64 m.size, .slice ad m.gates.length cd, .slice ak m.pulls.length ck] 36)).alloc (.cells #[.int .i64 0, .slice none 0 0, .slice none 0 0] 36)) w.heap.size (.int .i64 m.size) (.slice ad m.gates.length cd) (.slice ak m.pulls.length ck) (.int .i64 0) (.slice none 0 0) (.slice none 0 0) := ⟨by simp [go_sem], by simp [go_sem], by simp [go_sem], by simp [go_sem], by simp [go_sem], by simp [go_sem], by simp [go_sem], by simp [go_sem], by simp [go_sem], by simp⟩
  have HB0 : Hid (Below w.heap.size w ((w.alloc (.cells #[.int .i64 m.size, .slice ad m.gates.length cd, .slice ak m.pulls.length ck] 36)).alloc (.cells #[.int .i64 0, .slice none 0 0, .slice none 0 0] 36))) := ((Below.refl _ _).alloc (Nat.le_refl _) _).alloc (by simp) _
  have HS6 : Hid (∀ W, Below ((w.alloc (.cells #[.int .i64 m.size, .slice ad m.gates.length cd, .slice ak m.pulls.length ck] 36)).alloc (.cells #[.int .i64 0, .slice none 0 0, .slice none 0 0] 36)).heap.size ((w.alloc (.cells #[.int .i64 m.size, .slice ad m.gates.length cd, .slice ak m.pulls.length ck] 36)).alloc (.cells #[.int .i64 0, .slice none 0 0, .slice none 0 0] 36)) W → Six W w.heap.size (.int .i64 m.size) (.slice ad m.gates.length cd) (.slice ak m.pulls.length ck) (.int .i64 0) (.slice none 0 0) (.slice none 0 0)) := fun W hW => H6.later hW
  clear H6
  cases g1 : worksB m
  case false =>
    have hp' : pTurnLevers m l = (⟨0, [], []⟩, false) := by simp [pTurnLevers, g1]
    rw [hp'] at hp
    cases hp
    clear hp'
    go_enter Try.func32, Try.ntmps32
    go_wp2_with (go_at_call 52; refine (isWorks_c _ m _ (hm.later HB0.out)).mono ?_; rintro e w1 ⟨rfl, hb1⟩; have HB1 : Hid (Below w.heap.size w w1) := below_then HB0.out hb1; obtain ⟨s0, s1, s2, s3, s4, s5, s6, s7, s8, s9⟩ := HS6.out w1 hb1; rw [g1])
    refine bodyPost_ret (v := .tuple #[.agg #[.int .i64 0, .slice none 0 0, .slice none 0 0], .bool false]) (by simp [results, Try.results32, go_sem, *]) rfl ?_
    exact ⟨_, rfl, own_nilT _ _ _, by repeat (first | exact HB1.out | refine Below.setCell ?_ (by show w.heap.size ≤ w.heap.size + 1; omega) _)⟩
  cases g2 : setB l
  case false =>
    have hp' : pTurnLevers m l = (⟨0, [], []⟩, false) := by simp [pTurnLevers, g2]
    rw [hp'] at hp
    cases hp
    clear hp'
    go_enter Try.func32, Try.ntmps32
    go_wp2_with (first
      | (go_at_call 52; refine (isWorks_c _ m _ (hm.later HB0.out)).mono ?_; rintro e w1 ⟨rfl, hb1⟩; have HB1 : Hid (Below w.heap.size w w1) := below_then HB0.out hb1; obtain ⟨s0, s1, s2, s3, s4, s5, s6, s7, s8, s9⟩ := HS6.out w1 hb1; rw [g1])
      | (go_at_call 137; refine (isSet_c _ _).mono ?_; rintro e w2 ⟨rfl, rfl⟩; rw [g2]))
    refine bodyPost_ret (v := .tuple #[.agg #[.int .i64 0, .slice none 0 0, .slice none 0 0], .bool false]) (by simp [results, Try.results32, go_sem, *]) rfl ?_
    exact ⟨_, rfl, own_nilT _ _ _, by repeat (first | exact HB1.out | refine Below.setCell ?_ (by show w.heap.size ≤ w.heap.size + 1; omega) _)⟩
  have ok := worksB_true.1 g1
  obtain ⟨l0, l64⟩ : 0 ≤ l ∧ l < 64 := by have := setB_true.1 g2; omega
  obtain ⟨ln, rfl⟩ := Int.eq_ofNat_of_zero_le l0
  have hp' : pTurnLevers m (ln : Int) = (⟨m.size, turnL ln m.gates, m.pulls⟩, true) := by simp [pTurnLevers, g1, g2]
  rw [hp'] at hp
  cases hp
  clear hp'
  go_enter Try.func32, Try.ntmps32
  go_upto_region 3 with (first
    | (go_at_call 52; refine (isWorks_c _ m _ (hm.later HB0.out)).mono ?_; rintro e w1 ⟨rfl, hb1⟩; have HB1 : Hid (Below w.heap.size w w1) := below_then HB0.out hb1; have H61 := Lib.hid (HS6.out w1 hb1); obtain ⟨s0, s1, s2, s3, s4, s5, s6, s7, s8, s9⟩ := HS6.out w1 hb1; rw [g1])
    | (go_at_call 137; refine (isSet_c _ _).mono ?_; rintro e w2 ⟨rfl, rfl⟩; rw [g2]))
  have hz1 := HB1.out.size
  clear s0 s1 s2 s3 s4 s5 s6 s7 s8 s9
  obtain ⟨q0, q1, q2, q3, q4, q5, q6, q7, q8, q9⟩ := H61.out
  go_cut [6] (fun s6 wx => ∃ (bO lo2 hi2 lo3 hi3 c2 c3 : Nat) (a2 a3 : Option Addr), s6 = .pointer (some ⟨bO, 0, none⟩) ∧ Hid (TL3 wx 54 3 w.heap.size bO lo2 hi2 lo3 hi3 m.gates.length m.pulls.length cd ck c2 c3 m.size ad ak a2 a3 m.gates m.pulls) ∧ Hid (Below w.heap.size w wx))
  case first =>
    go_region_held3 (fun W => W.cell? ⟨w.heap.size, 0, none⟩ = some (.int .i64 m.size) ∧ W.cell? ⟨w.heap.size, 1, none⟩ = some (.slice ad m.gates.length cd) ∧ W.cell? ⟨w.heap.size, 2, none⟩ = some (.slice ak m.pulls.length ck))
      (first | exact ⟨q0, q1, q2⟩ | exact ⟨r0, r1, r2⟩ | exact ⟨s0, s1, s2⟩ | (refine ⟨?_, ?_, ?_⟩ <;> (repeat rw [World.cell?_setCell_other _ _ _ _ (by intro h; have := congrArg Addr.block h; dsimp only at this; omega)]) <;> first | exact s0 | exact s1 | exact s2) | exact ⟨(H63.out.later (by (repeat (first | exact Below.refl _ _ | apply Below.drew | apply below_drewN | (refine Below.setCell ?_ (by first | omega | (simp; done) | (simp; omega) | (dsimp only; omega)) _) | (refine Below.alloc ?_ (by first | omega | (simp; done) | (simp; omega) | (dsimp only; omega)) _))))).a, (H63.out.later (by (repeat (first | exact Below.refl _ _ | apply Below.drew | apply below_drewN | (refine Below.setCell ?_ (by first | omega | (simp; done) | (simp; omega) | (dsimp only; omega)) _) | (refine Below.alloc ?_ (by first | omega | (simp; done) | (simp; omega) | (dsimp only; omega)) _))))).b, (H63.out.later (by (repeat (first | exact Below.refl _ _ | apply Below.drew | apply below_drewN | (refine Below.setCell ?_ (by first | omega | (simp; done) | (simp; omega) | (dsimp only; omega)) _) | (refine Below.alloc ?_ (by first | omega | (simp; done) | (simp; omega) | (dsimp only; omega)) _))))).c⟩ | exact ⟨(H62.out.later (by (repeat (first | exact Below.refl _ _ | apply Below.drew | apply below_drewN | (refine Below.setCell ?_ (by first | omega | (simp; done) | (simp; omega) | (dsimp only; omega)) _) | (refine Below.alloc ?_ (by first | omega | (simp; done) | (simp; omega) | (dsimp only; omega)) _))))).a, (H62.out.later (by (repeat (first | exact Below.refl _ _ | apply Below.drew | apply below_drewN | (refine Below.setCell ?_ (by first | omega | (simp; done) | (simp; omega) | (dsimp only; omega)) _) | (refine Below.alloc ?_ (by first | omega | (simp; done) | (simp; omega) | (dsimp only; omega)) _))))).b, (H62.out.later (by (repeat (first | exact Below.refl _ _ | apply Below.drew | apply below_drewN | (refine Below.setCell ?_ (by first | omega | (simp; done) | (simp; omega) | (dsimp only; omega)) _) | (refine Below.alloc ?_ (by first | omega | (simp; done) | (simp; omega) | (dsimp only; omega)) _))))).c⟩ | exact ⟨(H61.out.later (by (repeat (first | exact Below.refl _ _ | apply Below.drew | apply below_drewN | (refine Below.setCell ?_ (by first | omega | (simp; done) | (simp; omega) | (dsimp only; omega)) _) | (refine Below.alloc ?_ (by first | omega | (simp; done) | (simp; omega) | (dsimp only; omega)) _))))).a, (H61.out.later (by (repeat (first | exact Below.refl _ _ | apply Below.drew | apply below_drewN | (refine Below.setCell ?_ (by first | omega | (simp; done) | (simp; omega) | (dsimp only; omega)) _) | (refine Below.alloc ?_ (by first | omega | (simp; done) | (simp; omega) | (dsimp only; omega)) _))))).b, (H61.out.later (by (repeat (first | exact Below.refl _ _ | apply Below.drew | apply below_drewN | (refine Below.setCell ?_ (by first | omega | (simp; done) | (simp; omega) | (dsimp only; omega)) _) | (refine Below.alloc ?_ (by first | omega | (simp; done) | (simp; omega) | (dsimp only; omega)) _))))).c⟩)
      (first | (go_at_call 149; refine (cloneG_c _ _ _ m.gates _ rfl (hd.later (HB1.out.trans (by (repeat (first | exact Below.refl _ _ | apply Below.drew | apply below_drewN | (refine Below.setCell ?_ (by first | omega | (simp; done) | (simp; omega) | (dsimp only; omega)) _) | (refine Below.alloc ?_ (by first | omega | (simp; done) | (simp; omega) | (dsimp only; omega)) _)))))) nd).mono ?_; rintro e w2 ⟨v2, rfl, ho2, hb2⟩; obtain ⟨a2, c2, rfl⟩ := own_slice ho2; have HO2 := Lib.hid (Own.of ho2); clear ho2; have B2 : Hid (Below w1.heap.size w1 w2) := below_then (by (repeat (first | exact Below.refl _ _ | apply Below.drew | apply below_drewN | (refine Below.setCell ?_ (by first | omega | (simp; done) | (simp; omega) | (dsimp only; omega)) _) | (refine Below.alloc ?_ (by first | omega | (simp; done) | (simp; omega) | (dsimp only; omega)) _)))) hb2; have hz2 := hb2.size; have hzz2 := B2.out.size; have H62 := Lib.hid (H61.out.later B2.out); (try (have t0 : w2.cell? ⟨w1.heap.size, 0, none⟩ = some (.int .i64 0) := (hb2.cell (p := ⟨w1.heap.size, 0, none⟩) (by simp)).trans (by simp [go_sem]); have tf0 : w2.frozen? ⟨w1.heap.size, 0, none⟩ = false := (hb2.frozen (p := ⟨w1.heap.size, 0, none⟩) (by simp)).trans (by simp [go_sem]); have t1 : w2.cell? ⟨w1.heap.size, 1, none⟩ = some (.slice none 0 0) := (hb2.cell (p := ⟨w1.heap.size, 1, none⟩) (by simp)).trans (by simp [go_sem]); have tf1 : w2.frozen? ⟨w1.heap.size, 1, none⟩ = false := (hb2.frozen (p := ⟨w1.heap.size, 1, none⟩) (by simp)).trans (by simp [go_sem]); have t2 : w2.cell? ⟨w1.heap.size, 2, none⟩ = some (.slice none 0 0) := (hb2.cell (p := ⟨w1.heap.size, 2, none⟩) (by simp)).trans (by simp [go_sem]); have tf2 : w2.frozen? ⟨w1.heap.size, 2, none⟩ = false := (hb2.frozen (p := ⟨w1.heap.size, 2, none⟩) (by simp)).trans (by simp [go_sem]); have tz : w1.heap.size < w2.heap.size := by have := hb2.size; simp at this; omega)); clear hb2; obtain ⟨r0, r1, r2, r3, r4, r5, r6, r7, r8, r9⟩ := H62.out) | (go_at_call 150; refine (clone_c _ _ _ m.pulls _ rfl (hk'.later ((HB1.out.trans (B2.out.mono hz1)).trans (by (repeat (first | exact Below.refl _ _ | apply Below.drew | apply below_drewN | (refine Below.setCell ?_ (by first | omega | (simp; done) | (simp; omega) | (dsimp only; omega)) _) | (refine Below.alloc ?_ (by first | omega | (simp; done) | (simp; omega) | (dsimp only; omega)) _)))))) nk).mono ?_; rintro e w3 ⟨v3, rfl, ho3, hb3⟩; obtain ⟨a3, c3, rfl⟩ := own_slice ho3; have HO3 := Lib.hid (Own.of ho3); clear ho3; have B3 : Hid (Below w2.heap.size w2 w3) := below_then (by (repeat (first | exact Below.refl _ _ | apply Below.drew | apply below_drewN | (refine Below.setCell ?_ (by first | omega | (simp; done) | (simp; omega) | (dsimp only; omega)) _) | (refine Below.alloc ?_ (by first | omega | (simp; done) | (simp; omega) | (dsimp only; omega)) _)))) hb3; have hz3 := hb3.size; have hzz3 := B3.out.size; have H63 := Lib.hid (H62.out.later B3.out); have HB3 := Lib.hid hb3; (try (have u0 : w3.cell? ⟨w2.heap.size, 0, none⟩ = some (.int .i64 0) := (hb3.cell (p := ⟨w2.heap.size, 0, none⟩) (by simp)).trans (by simp [go_sem]); have uf0 : w3.frozen? ⟨w2.heap.size, 0, none⟩ = false := (hb3.frozen (p := ⟨w2.heap.size, 0, none⟩) (by simp)).trans (by simp [go_sem]); have u1 : w3.cell? ⟨w2.heap.size, 1, none⟩ = some (.slice none 0 0) := (hb3.cell (p := ⟨w2.heap.size, 1, none⟩) (by simp)).trans (by simp [go_sem]); have uf1 : w3.frozen? ⟨w2.heap.size, 1, none⟩ = false := (hb3.frozen (p := ⟨w2.heap.size, 1, none⟩) (by simp)).trans (by simp [go_sem]); have u2 : w3.cell? ⟨w2.heap.size, 2, none⟩ = some (.slice none 0 0) := (hb3.cell (p := ⟨w2.heap.size, 2, none⟩) (by simp)).trans (by simp [go_sem]); have uf2 : w3.frozen? ⟨w2.heap.size, 2, none⟩ = false := (hb3.frozen (p := ⟨w2.heap.size, 2, none⟩) (by simp)).trans (by simp [go_sem]); have uz : w2.heap.size < w3.heap.size := by have := hb3.size; simp at this; omega)); (try (have u0 := (hb3.cell (p := ⟨w1.heap.size, 0, none⟩) (Nat.lt_of_lt_of_le tz (by simp))).trans t0; have uf0 := (hb3.frozen (p := ⟨w1.heap.size, 0, none⟩) (Nat.lt_of_lt_of_le tz (by simp))).trans tf0; have u1 := (hb3.cell (p := ⟨w1.heap.size, 1, none⟩) (Nat.lt_of_lt_of_le tz (by simp))).trans t1; have uf1 := (hb3.frozen (p := ⟨w1.heap.size, 1, none⟩) (Nat.lt_of_lt_of_le tz (by simp))).trans tf1; have u2 := (hb3.cell (p := ⟨w1.heap.size, 2, none⟩) (Nat.lt_of_lt_of_le tz (by simp))).trans t2; have uf2 := (hb3.frozen (p := ⟨w1.heap.size, 2, none⟩) (Nat.lt_of_lt_of_le tz (by simp))).trans tf2; have uz : w1.heap.size < w3.heap.size := by omega)); clear hb3; obtain ⟨s0, s1, s2, s3, s4, s5, s6, s7, s8, s9⟩ := H63.out))
    all_goals
      go_wp2_with fail
      go_meet
    case rel =>
      have h1 : w.heap.size + 1 < w1.heap.size := H61.out.sz
      have hB3 : Below w.heap.size w w3 := (HB1.out.trans (B2.out.mono hz1)).trans (B3.out.mono (by omega))
      exact ⟨w3.heap.size, w1.drew.heap.size, w2.heap.size, w2.heap.size, w3.heap.size, c2, c3, a2, a3, rfl, TL3.new H63.out (HO2.out.later B3.out (Nat.le_refl _)) HO3.out rfl (Nat.le_refl _) (Nat.le_refl _) hzz3 (by show _ ≤ w1.heap.size; omega) (by omega), hB3.alloc hB3.size _⟩
    case rel =>
      have h1 : w.heap.size + 1 < w1.heap.size := H61.out.sz
      have hB3 : Below w.heap.size w w3 := (HB1.out.trans (B2.out.mono hz1)).trans (B3.out.mono (by omega))
      simp only [World.size_alloc] at hz3
      have hO3 := HO3.out
      simp only [World.size_alloc] at hO3
      exact ⟨w2.heap.size, w1.drew.heap.size, w2.heap.size, w2.heap.size + 1, w3.heap.size, c2, c3, a2, a3, rfl, TL3.set H63.out (HO2.out.later B3.out (Nat.le_refl _)) hO3 rfl (by omega) (Nat.le_refl _) (by omega) (by show _ ≤ w1.heap.size; omega) (by omega) (by omega) (by omega) ⟨.inr (Nat.le_refl _), .inl (by omega)⟩ u0 u1 u2, by repeat (first | exact hB3 | refine Below.setCell ?_ (by show w.heap.size ≤ w2.heap.size; omega) _)⟩
    case rel =>
      have h1 : w.heap.size + 1 < w1.heap.size := H61.out.sz
      have hB3 : Below w.heap.size w w3 := (HB1.out.trans (B2.out.mono hz1)).trans (B3.out.mono (by omega))
      have hzz : w1.heap.size + 1 ≤ w2.heap.size := by have := hz2; simpa using this
      have hO2 : Own (w1.heap.size + 1) w2.heap.size w2 54 4 (.slice a2 m.gates.length c2) m.gates.length (c4 m.gates) := HO2.out.mono (by simp) (Nat.le_refl _)
      exact ⟨w1.heap.size, w1.heap.size + 1, w2.heap.size, w2.heap.size, w3.heap.size, c2, c3, a2, a3, rfl, TL3.set H63.out (hO2.later B3.out (Nat.le_refl _)) HO3.out rfl (Nat.le_refl _) (Nat.le_refl _) hzz3 (by omega) (by omega) (by omega) (by omega) ⟨.inl (by omega), .inl (by omega)⟩ u0 u1 u2, by repeat (first | exact hB3 | refine Below.setCell ?_ (by show w.heap.size ≤ w1.heap.size; omega) _)⟩
  case rest =>
    obtain ⟨bO, lo2, hi2, lo3, hi3, c2, c3, a2, a3, rfl, HT, HB⟩ := hcut
    have OK := Lib.hid ok
    have HGL : Hid (m.gates.length ≤ 1048576) := nd
    clear q0 q1 q2 q3 q4 q5 q6 q7 q8 q9 ok hd hk' nk hm H61 HB1 HS6 HB0
    have o1 := HT.out.o1
    have hob := HT.out.ob
    go_wp2
    clear o1
    go_loopw [30] (fun iv wr => ∃ k : Nat, iv = .int .i64 k ∧ k ≤ m.gates.length ∧ Hid (TL3 wr 54 3 w.heap.size bO lo2 hi2 lo3 hi3 m.gates.length m.pulls.length cd ck c2 c3 m.size ad ak a2 a3 (turnP ln m.gates k) m.pulls) ∧ Hid (Below w.heap.size w wr)) (fun iv _ => m.gates.length - (intOf iv).toNat)
    case atStart =>
      have h0 : turnP (ln : Int) m.gates 0 = m.gates := by simp [turnP]
      refine ⟨0, rfl, Nat.zero_le _, ?_, HB⟩
      rw [h0]; exact HT
    case round =>
      clear HT HB hob
      obtain ⟨wo, rfl⟩ : ∃ wo : World, wo = wr := ⟨_, rfl⟩
      obtain ⟨k, rfl, hk, HT, HB⟩ := hrel
      have o1 := HT.out.o1
      have hob := HT.out.ob
      by_cases hlt : k < m.gates.length
      · have hltI : (k : Int) < (m.gates.length : Int) := by omega
        obtain ⟨x, y, z, u, hg⟩ : ∃ x y z u, m.gates[k]! = (x, y, z, u) := ⟨_, _, _, _, rfl⟩
        obtain ⟨f1, f2, f3, f4, f5, f6, f7⟩ := gate_facts OK.out hlt hg
        obtain ⟨zn, rfl⟩ := Int.eq_ofNat_of_zero_le f4
        obtain ⟨un, rfl⟩ := Int.eq_ofNat_of_zero_le f6
        have hTk : (turnP ln m.gates k)[k]! = (x, y, (zn : Int), (un : Int)) := by rw [turnP_at hlt, hg]
        obtain ⟨T, hT⟩ : ∃ T, T = turnP ln m.gates k := ⟨_, rfl⟩
        have hTl : T.length = m.gates.length := by rw [hT]; exact turnP_len hk
        rw [← hT] at HT hTk
        obtain ⟨g2, c2', hs2, -, -⟩ := own_someS HT.out.g.row (by omega)
        cases hs2
        have hg2 := HT.out.g.blocks g2 rfl
        have hgz : g2 < wo.heap.size := by have := HT.out.h2; have := HT.out.h3; have := HT.out.h23; omega
        obtain ⟨d0, d1, d2, d3⟩ := get_c4 T k (by omega)
        rw [hTk] at d0 d1 d2 d3
        have e0 := (HT.out.g.row.cellAt (k * 4) (by omega)).trans d0
        have e1 := (HT.out.g.row.cellAt (k * 4 + 1) (by omega)).trans d1
        have e2 := (HT.out.g.row.cellAt (k * 4 + 2) (by omega)).trans d2
        have e3 := (HT.out.g.row.cellAt (k * 4 + 3) (by omega)).trans d3
        dsimp only at e0 e1 e2 e3
        obtain ⟨y0, hy0⟩ : ∃ y0, y0 = zn &&& ln := ⟨_, rfl⟩
        have hy64 : y0 < 64 := by rw [hy0]; exact and_lt64 ln (by omega)
        have ea : bits .and .i64 (zn : Int) (ln : Int) = (y0 : Int) := by rw [hy0]; exact i64_and zn ln (by omega) (by omega)
        obtain ⟨pv, hpv⟩ : ∃ pv : Nat, pv = popN y0 % 2 := ⟨_, rfl⟩
        have HPV : Hid (popc y0 % 2 = (pv : Int)) := by show _ = _; rw [hpv]; unfold popc; omega
        obtain ⟨tv, htv⟩ : ∃ tv : Nat, tv = un ^^^ pv := ⟨_, rfl⟩
        have eo : bits .xor .i64 (un : Int) (pv : Int) = (tv : Int) := by rw [htv]; exact i64_xor un pv (by omega) (by omega)
        have HTN : Hid (turnP ln m.gates (k + 1) = T.set k ((T[k]!).1, (T[k]!).2.1, (T[k]!).2.2.1, (tv : Int))) := by
          show _ = _
          rw [turnP_step hlt, ← hT, hTk, hg]
          unfold turnG turnD
          simp only [Int.toNat_natCast]
          rw [← hy0, ← hpv, ← htv]
        have HTL := Lib.hid hTl
        clear hT hTk hg d0 d1 d2 d3 hpv htv hy0 f1 f2 f3 f4 f5 f6 f7 hTl
        go_upto_region 7 with fail
        obtain ⟨wv, hwv⟩ : ∃ wv, wv = wo.alloc (.cells #[.int .i64 x, .int .i64 y, .int .i64 (zn : Int), .int .i64 (un : Int)] 54) := ⟨_, rfl⟩
        have hA : Below wo.heap.size wo wv := by rw [hwv]; exact (Below.refl _ _).alloc (Nat.le_refl _) _
        have hwz : wv.heap.size = wo.heap.size + 1 := by rw [hwv]; simp
        have p2 : wv.cell? ⟨wo.heap.size, 2, none⟩ = some (.int .i64 (zn : Int)) := by rw [hwv]; simp [go_sem]
        have p3 : wv.cell? ⟨wo.heap.size, 3, none⟩ = some (.int .i64 (un : Int)) := by rw [hwv]; simp [go_sem]
        rw [← hwv]
        have HTV : Hid (TL3 wv 54 3 w.heap.size bO lo2 hi2 lo3 hi3 m.gates.length m.pulls.length cd ck c2 c3 m.size ad ak (some ⟨g2, 0, none⟩) a3 T m.pulls) := HT.out.later hA
        have p1 := HTV.out.o1
        have p4 := (hA.cell (p := ⟨g2, k * 4 + 3, none⟩) hgz).trans e3
        have p5 : wv.frozen? ⟨g2, k * 4 + 3, none⟩ = false := HTV.out.g.row.frozenAt _
        have hbg : g2 ≠ bO := by have := HT.out.bd.1; omega
        have hgo : g2 ≠ wo.heap.size := by omega
        have HBV : Hid (Below w.heap.size w wv) := HB.out.trans (hA.mono HB.out.size)
        have hzw := HBV.out.size
        have hl2 := HT.out.l2
        clear hwv e0 e1 e2 e3 o1 HT HB hA
        go_region_held3 (fun W => W.cell? ⟨bO, 1, none⟩ = some (.slice (some ⟨g2, 0, none⟩) m.gates.length c2) ∧ W.cell? ⟨wo.heap.size, 2, none⟩ = some (.int .i64 (zn : Int)) ∧ W.cell? ⟨wo.heap.size, 3, none⟩ = some (.int .i64 (un : Int)))
          (first | exact ⟨p1, p2, p3⟩ | (refine ⟨?_, ?_, ?_⟩ <;> (show (World.setCell _ _ _).cell? _ = _; rw [World.cell?_setCell_other _ _ _ _ (by intro h; have := congrArg Addr.block h; dsimp only at this; omega)]) <;> first | exact p1 | exact p2 | exact p3))
          ((go_at_call 151; refine (odd_c y0 hy64 _).mono ?_; rintro e w2 ⟨rfl, hw2⟩; subst hw2; rw [HPV.out]))
        go_wp2
        go_roundw
        case rel =>
          have st := HTV.out.g.row.stored (k * 4 + 3) (.int .i64 (tv : Int))
          rw [c4_set3 (by rw [HTL.out]; exact hlt), ← HTN.out] at st
          have hch : Chg lo2 hi2 wv (wv.setCell ⟨g2, k * 4 + 3, none⟩ (.int .i64 (tv : Int))) := Chg.of_grown st.2 (fun g hg => by cases hg; exact hg2)
          have h7 := HTV.out.row (G' := turnP ln m.gates (k + 1)) hch ⟨st.1, HTV.out.g.top⟩ (turnP_len (by omega))
          have h8 : Below w.heap.size w (wv.setCell ⟨g2, k * 4 + 3, none⟩ (.int .i64 (tv : Int))) := HBV.out.trans (hch.below (by omega) (by omega))
          exact ⟨k + 1, by go_num, by omega, h7.later (Below.refl _ _).drew, h8.drew⟩
        case measure => simp [intOf]; omega
      · obtain rfl : k = m.gates.length := by omega
        have HPS : Hid (∀ S : List D4, S.Perm (turnP ln m.gates m.gates.length) → S.Pairwise (fun x y => lt4 y x = false) → S = turnL ln m.gates) := by
          intro S h1 h2
          rw [turnP_all] at h1
          exact turn_unique OK.out ln h1 h2
        have HLK : Hid (m.gates.length = (turnP ln m.gates m.gates.length).length) := by show _ = _; rw [turnP_len (Nat.le_refl _)]
        clear o1
        have o0 := HT.out.o0
        have o1 := HT.out.o1
        have o2 := HT.out.o2
        have hzo := HB.out.size
        go_wp2_with fail
        refine (sortG_c lo2 hi2 _ _ _ _ _ _ HLK.out HT.out.g HGL.out).mono ?_
        rintro e w5 ⟨rfl, S, hp, hs, ho, hc⟩
        obtain ⟨GT, hGT⟩ : ∃ GT, GT = turnL (ln : Int) m.gates := ⟨_, rfl⟩
        have hS : S = GT := by rw [hGT]; exact HPS.out S hp hs
        have HSL : Hid (GT.length = m.gates.length) := (by show _ = _; rw [← hS, hp.length_eq]; exact HLK.out.symm)
        subst hS
        have HT5 := Lib.hid (HT.out.row hc ho HSL.out)
        have HB5 : Hid (Below w.heap.size w w5) := HB.out.trans (hc.below (by have := HT.out.l2; omega) hzo)
        have HGT := Lib.hid hGT
        clear hGT hp hs ho hc o0 o1 o2
        have o0 := HT5.out.o0
        have o1 := HT5.out.o1
        have o2 := HT5.out.o2
        obtain ⟨s0, s1, s2, s3, s4, s5, s6, s7, s8, s9⟩ := HT5.out.six
        go_wp2
        refine bodyPost_ret (v := .tuple #[.agg #[.int .i64 m.size, .slice a2 m.gates.length c2, .slice a3 m.pulls.length c3], .bool true]) (by simp [results, Try.results32, go_sem, *]) rfl ?_
        have l2 := HT5.out.l2
        have h2 := HT5.out.h2
        have h3 := HT5.out.h3
        have h23 := HT5.out.h23
        have l3 := HT5.out.l3
        have hz5 := HB5.out.size
        rw [← HGT.out]
        refine ⟨_, rfl, ⟨54, 3, _, _, rfl, ?_, ?_, HT5.out.g.apart HT5.out.p (.inl h2)⟩, ?_⟩
        · show Own _ _ _ _ _ _ S.length (c4 S)
          rw [HSL.out]
          refine Own.mono (lo := lo2) (hi := hi2) ?_ (by omega) (by simp; omega)
          repeat (first | exact HT5.out.g | refine Own.setCell ?_ (.inl (by show w.heap.size + 1 < _; omega)) _)
        · refine Own.mono (lo := lo3) (hi := hi3) ?_ (by omega) (by simp; omega)
          repeat (first | exact HT5.out.p | refine Own.setCell ?_ (.inl (by show w.heap.size + 1 < _; omega)) _)
        · repeat (first | exact HB5.out | refine Below.setCell ?_ (by show w.heap.size ≤ w.heap.size + 1; omega) _)
end Go.Proofs.Ytmilpahggceemaa

namespace Go.KD
open Go.RowKit
theorem outA {W W' : World} {T : TypeId} {x y z : Value} (hb : Below (W.alloc (.cells #[x, y, z] T)).drew.heap.size (W.alloc (.cells #[x, y, z] T)).drew W') : W'.cell? ⟨W.heap.size, 0, none⟩ = some x ∧ W'.cell? ⟨W.heap.size, 1, none⟩ = some y ∧ W'.cell? ⟨W.heap.size, 2, none⟩ = some z ∧ W'.frozen? ⟨W.heap.size, 0, none⟩ = false ∧ W'.frozen? ⟨W.heap.size, 1, none⟩ = false ∧ W'.frozen? ⟨W.heap.size, 2, none⟩ = false ∧ W.heap.size < W'.heap.size := by
  have hs : W.heap.size < (W.alloc (.cells #[x, y, z] T)).drew.heap.size := by simp
  have hz := hb.size
  refine ⟨(hb.cell (p := ⟨W.heap.size, 0, none⟩) hs).trans (by simp [go_sem]), (hb.cell (p := ⟨W.heap.size, 1, none⟩) hs).trans (by simp [go_sem]), (hb.cell (p := ⟨W.heap.size, 2, none⟩) hs).trans (by simp [go_sem]), (hb.frozen (p := ⟨W.heap.size, 0, none⟩) hs).trans (by simp [go_sem]), (hb.frozen (p := ⟨W.heap.size, 1, none⟩) hs).trans (by simp [go_sem]), (hb.frozen (p := ⟨W.heap.size, 2, none⟩) hs).trans (by simp [go_sem]), by omega⟩
theorem outB {W W' : World} {T : TypeId} {o : Obj} {x y z : Value} (hb : Below ((W.alloc (.cells #[x, y, z] T)).alloc o).drew.heap.size ((W.alloc (.cells #[x, y, z] T)).alloc o).drew W') : W'.cell? ⟨W.heap.size, 0, none⟩ = some x ∧ W'.cell? ⟨W.heap.size, 1, none⟩ = some y ∧ W'.cell? ⟨W.heap.size, 2, none⟩ = some z ∧ W'.frozen? ⟨W.heap.size, 0, none⟩ = false ∧ W'.frozen? ⟨W.heap.size, 1, none⟩ = false ∧ W'.frozen? ⟨W.heap.size, 2, none⟩ = false ∧ W.heap.size < W'.heap.size :=
  outA (T := T) (x := x) (y := y) (z := z) (((show Below (W.alloc (.cells #[x, y, z] T)).drew.heap.size (W.alloc (.cells #[x, y, z] T)).drew ((W.alloc (.cells #[x, y, z] T)).alloc o).drew from ((Below.refl (W.alloc (.cells #[x, y, z] T)).heap.size (W.alloc (.cells #[x, y, z] T)).drew).alloc (Nat.le_refl _) o))).trans (hb.mono (by simp)))
/-- The world of spec.TurnLevers. -/
structure SP (W : World) (n bO bg og cg tl ng np cd ck c3 : Nat) (sz : Int) (ad ak a3 : Option Addr) (T : List D4) (Pl : List Int) : Prop where
  six : Six W n (.int .i64 sz) (.slice ad ng cd) (.slice ak np ck) (.int .i64 0) (.slice none 0 0) (.slice none 0 0)
  o0 : W.cell? ⟨bO, 0, none⟩ = some (.int .i64 sz)
  o1 : W.cell? ⟨bO, 1, none⟩ = some (.slice (some ⟨bg, og, none⟩) tl cg)
  o2 : W.cell? ⟨bO, 2, none⟩ = some (.slice a3 np c3)
  fo : W.frozen? ⟨bO, 1, none⟩ = false
  ob : bO < W.heap.size
  lb : n + 2 ≤ bO
  cv : CVQ W bg og (c4 T)
  tle : T.length = tl
  bs : bg < W.heap.size
  ne : bg ≠ bO
  cl : tl ≤ cg
  cm : cg ≤ maxLen
  p : IC W a3 Pl
  pn : ∀ b off, a3 = some ⟨b, off, none⟩ → 0 < Pl.length → b ≠ bO
  bl : n + 2 ≤ bg
  pl : ∀ b off, a3 = some ⟨b, off, none⟩ → 0 < Pl.length → n + 2 ≤ b
theorem SP.later {W W' : World} {n bO bg og cg tl ng np cd ck c3 : Nat} {sz : Int} {ad ak a3 : Option Addr} {T : List D4} {Pl : List Int} (h : SP W n bO bg og cg tl ng np cd ck c3 sz ad ak a3 T Pl) (hb : Below W.heap.size W W') : SP W' n bO bg og cg tl ng np cd ck c3 sz ad ak a3 T Pl := by
  have hz := hb.size
  exact ⟨h.six.later hb, (hb.cell (p := ⟨bO, 0, none⟩) h.ob).trans h.o0, (hb.cell (p := ⟨bO, 1, none⟩) h.ob).trans h.o1, (hb.cell (p := ⟨bO, 2, none⟩) h.ob).trans h.o2, (hb.frozen (p := ⟨bO, 1, none⟩) h.ob).trans h.fo, Nat.lt_of_lt_of_le h.ob hz, h.lb, h.cv.later h.bs hb, h.tle, Nat.lt_of_lt_of_le h.bs hz, h.ne, h.cl, h.cm, h.p.later hb, h.pn, h.bl, h.pl⟩
theorem SP.store {W : World} {n bO bg og cg tl ng np cd ck c3 bg' og' cg' tl' : Nat} {sz : Int} {ad ak a3 : Option Addr} {T T' : List D4} {Pl : List Int} (h : SP W n bO bg og cg tl ng np cd ck c3 sz ad ak a3 T Pl) (hcv : CVQ W bg' og' (c4 T')) (htl : T'.length = tl') (hbs : bg' < W.heap.size) (hne : bg' ≠ bO) (hcl : tl' ≤ cg') (hcm : cg' ≤ maxLen) (hbl : n + 2 ≤ bg') :
    SP (W.setCell ⟨bO, 1, none⟩ (.slice (some ⟨bg', og', none⟩) tl' cg')) n bO bg' og' cg' tl' ng np cd ck c3 sz ad ak a3 T' Pl := by
  have hc : Chg bO (bO + 1) W (W.setCell ⟨bO, 1, none⟩ (.slice (some ⟨bg', og', none⟩) tl' cg')) := Chg.of_grown (grown_setCell W ⟨bO, 1, none⟩ _) (fun g hg => by cases hg; exact ⟨Nat.le_refl _, Nat.lt_succ_self _⟩)
  have o0 : (W.setCell ⟨bO, 1, none⟩ (.slice (some ⟨bg', og', none⟩) tl' cg')).cell? ⟨bO, 0, none⟩ = some (.int .i64 sz) := by rw [World.cell?_setCell_other _ _ _ _ (by simp)]; exact h.o0
  have o1 : (W.setCell ⟨bO, 1, none⟩ (.slice (some ⟨bg', og', none⟩) tl' cg')).cell? ⟨bO, 1, none⟩ = some (.slice (some ⟨bg', og', none⟩) tl' cg') := World.cell?_setCell_same' _ _ _ (by rw [h.o1]; rfl)
  have o2 : (W.setCell ⟨bO, 1, none⟩ (.slice (some ⟨bg', og', none⟩) tl' cg')).cell? ⟨bO, 2, none⟩ = some (.slice a3 np c3) := by rw [World.cell?_setCell_other _ _ _ _ (by simp)]; exact h.o2
  have fo : (W.setCell ⟨bO, 1, none⟩ (.slice (some ⟨bg', og', none⟩) tl' cg')).frozen? ⟨bO, 1, none⟩ = false := by simpa using h.fo
  have hz : (W.setCell ⟨bO, 1, none⟩ (.slice (some ⟨bg', og', none⟩) tl' cg')).heap.size = W.heap.size := by simp
  obtain ⟨W', hW'⟩ : ∃ W', W' = W.setCell ⟨bO, 1, none⟩ (.slice (some ⟨bg', og', none⟩) tl' cg') := ⟨_, rfl⟩
  rw [← hW'] at hc o0 o1 o2 fo hz ⊢
  have lb := h.lb
  have hs := h.six
  have hs0 := hs.sz
  have c : ∀ b o, b < n + 2 → W'.cell? ⟨b, o, none⟩ = W.cell? ⟨b, o, none⟩ := fun b o hb => hc.cell (p := ⟨b, o, none⟩) (by show b < _; omega) (.inl (by show b < _; omega))
  have f : ∀ b o, b < n + 2 → W'.frozen? ⟨b, o, none⟩ = W.frozen? ⟨b, o, none⟩ := fun b o hb => World.frozen?_of_block (w := W) (hc.block b (by omega) (.inl (by omega)))
  refine ⟨⟨(c _ _ (by omega)).trans hs.a, (c _ _ (by omega)).trans hs.b, (c _ _ (by omega)).trans hs.c, (c _ _ (by omega)).trans hs.x, (c _ _ (by omega)).trans hs.y, (c _ _ (by omega)).trans hs.z, (f _ _ (by omega)).trans hs.fx, (f _ _ (by omega)).trans hs.fy, (f _ _ (by omega)).trans hs.fz, by omega⟩, o0, o1, o2, fo, by have := h.ob; omega, lb, ?_, htl, by omega, hne, hcl, hcm, ?_, h.pn, hbl, h.pl⟩
  · intro j u hu
    have h1 := hcv j u hu
    rw [add_at rfl] at h1 ⊢
    rw [hc.cell (p := ⟨bg', og' + j, none⟩) hbs (by show bg' < _ ∨ _ ≤ bg'; omega)]; exact h1
  · intro k hk
    obtain ⟨b, off, ha, hb, hcell⟩ := h.p k hk
    have := h.pn b off ha (by omega)
    exact ⟨b, off, ha, by omega, by rw [hc.cell (p := ⟨b, off + k, none⟩) hb (by show b < _ ∨ _ ≤ b; omega)]; exact hcell⟩
theorem sp_pn {W : World} {a3 : Option Addr} {Pl : List Int} {bO : Nat} (hp : IC W a3 Pl) (h : ∀ b off, a3 = some ⟨b, off, none⟩ → b < W.heap.size → b ≠ bO) : ∀ b off, a3 = some ⟨b, off, none⟩ → 0 < Pl.length → b ≠ bO := by
  intro b off e h0
  obtain ⟨b', off', e', hb, -⟩ := hp 0 h0
  rw [e] at e'
  cases e'
  exact h b off e hb
theorem SP.new {W : World} {n bg ng np cd ck c3 : Nat} {T : TypeId} {sz : Int} {ad ak a3 : Option Addr} {Pl : List Int} (hs : Six W n (.int .i64 sz) (.slice ad ng cd) (.slice ak np ck) (.int .i64 0) (.slice none 0 0) (.slice none 0 0)) (hp : IC W a3 Pl) (hb : bg < W.heap.size) (hbl : n + 2 ≤ bg) (hpl : ∀ b off, a3 = some ⟨b, off, none⟩ → 0 < Pl.length → n + 2 ≤ b) :
    SP (W.alloc (.cells #[.int .i64 sz, .slice (some ⟨bg, 0, none⟩) 0 0, .slice a3 np c3] T)) n W.heap.size bg 0 0 0 ng np cd ck c3 sz ad ak a3 [] Pl := by
  have hB : Below W.heap.size W (W.alloc (.cells #[.int .i64 sz, .slice (some ⟨bg, 0, none⟩) 0 0, .slice a3 np c3] T)) := (Below.refl _ _).alloc (Nat.le_refl _) _
  have h0 := hs.sz
  exact ⟨hs.later hB, by simp [go_sem], by simp [go_sem], by simp [go_sem], by simp [go_sem], by simp, by omega, fun j u hu => by simp [c4] at hu, rfl, by simp; omega, by omega, Nat.le_refl _, by unfold maxLen; omega, hp.later hB, sp_pn hp (fun b off _ h => by omega), hbl, hpl⟩
theorem SP.new4 {W : World} {n ng np cd ck c3 : Nat} {T T2 : TypeId} {sz : Int} {ad ak a3 : Option Addr} {Pl : List Int} (hs : Six W n (.int .i64 sz) (.slice ad ng cd) (.slice ak np ck) (.int .i64 0) (.slice none 0 0) (.slice none 0 0)) (hp : IC W a3 Pl) (hpl : ∀ b off, a3 = some ⟨b, off, none⟩ → 0 < Pl.length → n + 2 ≤ b) :
    SP ((W.alloc (.cells #[.int .i64 sz, .slice (some ⟨W.heap.size + 1, 0, none⟩) 0 0, .slice a3 np c3] T)).alloc (.cells #[] T2)) n W.heap.size (W.heap.size + 1) 0 0 0 ng np cd ck c3 sz ad ak a3 [] Pl := by
  have hB : Below W.heap.size W ((W.alloc (.cells #[.int .i64 sz, .slice (some ⟨W.heap.size + 1, 0, none⟩) 0 0, .slice a3 np c3] T)).alloc (.cells #[] T2)) := ((Below.refl _ _).alloc (Nat.le_refl _) _).alloc (by simp) _
  have h0 := hs.sz
  exact ⟨hs.later hB, by simp [go_sem], by simp [go_sem], by simp [go_sem], by simp [go_sem], by simp; omega, by omega, fun j u hu => by simp [c4] at hu, rfl, by simp, by omega, Nat.le_refl _, by unfold maxLen; omega, hp.later hB, sp_pn hp (fun b off _ h => by omega), by omega, hpl⟩
theorem SP.set {W : World} {n bO bg ng np cd ck c3 : Nat} {sz : Int} {ad ak a3 : Option Addr} {Pl : List Int} (hs : Six W n (.int .i64 sz) (.slice ad ng cd) (.slice ak np ck) (.int .i64 0) (.slice none 0 0) (.slice none 0 0)) (hp : IC W a3 Pl) (ob : bO < W.heap.size) (lb : n + 2 ≤ bO) (ne : bg ≠ bO) (pn : ∀ b off, a3 = some ⟨b, off, none⟩ → 0 < Pl.length → b ≠ bO) (hbl : n + 2 ≤ bg) (hpl : ∀ b off, a3 = some ⟨b, off, none⟩ → 0 < Pl.length → n + 2 ≤ b) {x y z : Value} (t0 : W.cell? ⟨bO, 0, none⟩ = some x) (t1 : W.cell? ⟨bO, 1, none⟩ = some y) (t2 : W.cell? ⟨bO, 2, none⟩ = some z) (tf : W.frozen? ⟨bO, 1, none⟩ = false) :
    ∀ W'', Below (((W.setCell ⟨bO, 0, none⟩ (.int .i64 sz)).setCell ⟨bO, 1, none⟩ (.slice (some ⟨bg, 0, none⟩) 0 0)).setCell ⟨bO, 2, none⟩ (.slice a3 np c3)).heap.size (((W.setCell ⟨bO, 0, none⟩ (.int .i64 sz)).setCell ⟨bO, 1, none⟩ (.slice (some ⟨bg, 0, none⟩) 0 0)).setCell ⟨bO, 2, none⟩ (.slice a3 np c3)) W'' → bg < W''.heap.size → SP W'' n bO bg 0 0 0 ng np cd ck c3 sz ad ak a3 [] Pl := by
  have k1 : Chg bO (bO + 1) W (W.setCell ⟨bO, 0, none⟩ (.int .i64 sz)) := Chg.of_grown (grown_setCell W ⟨bO, 0, none⟩ _) (fun g hg => by cases hg; exact ⟨Nat.le_refl _, Nat.lt_succ_self _⟩)
  have k2 : Chg bO (bO + 1) (W.setCell ⟨bO, 0, none⟩ (.int .i64 sz)) ((W.setCell ⟨bO, 0, none⟩ (.int .i64 sz)).setCell ⟨bO, 1, none⟩ (.slice (some ⟨bg, 0, none⟩) 0 0)) := Chg.of_grown (grown_setCell _ ⟨bO, 1, none⟩ _) (fun g hg => by cases hg; exact ⟨Nat.le_refl _, Nat.lt_succ_self _⟩)
  have k3 : Chg bO (bO + 1) ((W.setCell ⟨bO, 0, none⟩ (.int .i64 sz)).setCell ⟨bO, 1, none⟩ (.slice (some ⟨bg, 0, none⟩) 0 0)) (((W.setCell ⟨bO, 0, none⟩ (.int .i64 sz)).setCell ⟨bO, 1, none⟩ (.slice (some ⟨bg, 0, none⟩) 0 0)).setCell ⟨bO, 2, none⟩ (.slice a3 np c3)) := Chg.of_grown (grown_setCell _ ⟨bO, 2, none⟩ _) (fun g hg => by cases hg; exact ⟨Nat.le_refl _, Nat.lt_succ_self _⟩)
  have hc := (k1.trans k2).trans k3
  have hz : (((W.setCell ⟨bO, 0, none⟩ (.int .i64 sz)).setCell ⟨bO, 1, none⟩ (.slice (some ⟨bg, 0, none⟩) 0 0)).setCell ⟨bO, 2, none⟩ (.slice a3 np c3)).heap.size = W.heap.size := by simp
  have hs0 := hs.sz
  have o0 : (((W.setCell ⟨bO, 0, none⟩ (.int .i64 sz)).setCell ⟨bO, 1, none⟩ (.slice (some ⟨bg, 0, none⟩) 0 0)).setCell ⟨bO, 2, none⟩ (.slice a3 np c3)).cell? ⟨bO, 0, none⟩ = some (.int .i64 sz) := by
    rw [World.cell?_setCell_other _ _ _ _ (by simp), World.cell?_setCell_other _ _ _ _ (by simp), World.cell?_setCell_same' _ _ _ (by rw [t0]; rfl)]
  have o1 : (((W.setCell ⟨bO, 0, none⟩ (.int .i64 sz)).setCell ⟨bO, 1, none⟩ (.slice (some ⟨bg, 0, none⟩) 0 0)).setCell ⟨bO, 2, none⟩ (.slice a3 np c3)).cell? ⟨bO, 1, none⟩ = some (.slice (some ⟨bg, 0, none⟩) 0 0) := by
    rw [World.cell?_setCell_other _ _ _ _ (by simp), World.cell?_setCell_same' _ _ _ (by rw [World.cell?_setCell_other _ _ _ _ (by simp), t1]; rfl)]
  have o2 : (((W.setCell ⟨bO, 0, none⟩ (.int .i64 sz)).setCell ⟨bO, 1, none⟩ (.slice (some ⟨bg, 0, none⟩) 0 0)).setCell ⟨bO, 2, none⟩ (.slice a3 np c3)).cell? ⟨bO, 2, none⟩ = some (.slice a3 np c3) := by
    rw [World.cell?_setCell_same' _ _ _ (by rw [World.cell?_setCell_other _ _ _ _ (by simp), World.cell?_setCell_other _ _ _ _ (by simp), t2]; rfl)]
  have fo : (((W.setCell ⟨bO, 0, none⟩ (.int .i64 sz)).setCell ⟨bO, 1, none⟩ (.slice (some ⟨bg, 0, none⟩) 0 0)).setCell ⟨bO, 2, none⟩ (.slice a3 np c3)).frozen? ⟨bO, 1, none⟩ = false := by simpa using tf
  obtain ⟨W', hW'⟩ : ∃ W', W' = ((W.setCell ⟨bO, 0, none⟩ (.int .i64 sz)).setCell ⟨bO, 1, none⟩ (.slice (some ⟨bg, 0, none⟩) 0 0)).setCell ⟨bO, 2, none⟩ (.slice a3 np c3) := ⟨_, rfl⟩
  rw [← hW'] at hc hz o0 o1 o2 fo ⊢
  have c : ∀ b o, b < n + 2 → W'.cell? ⟨b, o, none⟩ = W.cell? ⟨b, o, none⟩ := fun b o hb => hc.cell (p := ⟨b, o, none⟩) (by show b < _; omega) (.inl (by show b < _; omega))
  have f : ∀ b o, b < n + 2 → W'.frozen? ⟨b, o, none⟩ = W.frozen? ⟨b, o, none⟩ := fun b o hb => World.frozen?_of_block (w := W) (hc.block b (by omega) (.inl (by omega)))
  have six : Six W' n (.int .i64 sz) (.slice ad ng cd) (.slice ak np ck) (.int .i64 0) (.slice none 0 0) (.slice none 0 0) := ⟨(c _ _ (by omega)).trans hs.a, (c _ _ (by omega)).trans hs.b, (c _ _ (by omega)).trans hs.c, (c _ _ (by omega)).trans hs.x, (c _ _ (by omega)).trans hs.y, (c _ _ (by omega)).trans hs.z, (f _ _ (by omega)).trans hs.fx, (f _ _ (by omega)).trans hs.fy, (f _ _ (by omega)).trans hs.fz, by omega⟩
  have hp' : IC W' a3 Pl := by
    intro k hk
    obtain ⟨b, off, ha, hb, hcell⟩ := hp k hk
    have := pn b off ha (by omega)
    exact ⟨b, off, ha, by omega, by rw [hc.cell (p := ⟨b, off + k, none⟩) hb (by show b < _ ∨ _ ≤ b; omega)]; exact hcell⟩
  intro W'' hB hb
  have ob' : bO < W'.heap.size := by omega
  have hz2 := hB.size
  exact ⟨six.later hB, (hB.cell (p := ⟨bO, 0, none⟩) ob').trans o0, (hB.cell (p := ⟨bO, 1, none⟩) ob').trans o1, (hB.cell (p := ⟨bO, 2, none⟩) ob').trans o2, (hB.frozen (p := ⟨bO, 1, none⟩) ob').trans fo, by omega, lb, fun j u hu => by simp [c4] at hu, rfl, hb, ne, Nat.le_refl _, by unfold maxLen; omega, hp'.later hB, pn, hbl, hpl⟩
end Go.KD
namespace Go.Proofs.Ytmilpahggceemaa
open Go.RowKit Go.KD
attribute [local go_sem] later_cell later_frozen
set_option maxRecDepth 100000 in
set_option maxHeartbeats 8000000 in
theorem specTurnLevers_c (v : Value) (m : Wk) (l : Int) (w : World) (R : Wk) (b : Bool) (hp : pTurnLevers m l = (R, b)) (hm : WkAt w v m) (wl : wfI l) :
    Calls Try.prog 33 #[v, .int .i64 l] w fun e w' => ∃ u, e = .returned (.tuple #[u, .bool b]) ∧ WkAt w' u R ∧ Below w.heap.size w w' := by
  have hM := hm
  obtain ⟨⟨ad, cd, ak, ck, rfl, hd, hk'⟩, nd, nk⟩ := hM
  have H6 : Six ((w.alloc (.cells #[.int .i64 m.size, .slice ad m.gates.length cd, .slice ak m.pulls.length ck] 36)).alloc (.cells #[.int .i64 0, .slice none 0 0, .slice none 0 0] 36)) w.heap.size (.int .i64 m.size) (.slice ad m.gates.length cd) (.slice ak m.pulls.length ck) (.int .i64 0) (.slice none 0 0) (.slice none 0 0) := ⟨by simp [go_sem], by simp [go_sem], by simp [go_sem], by simp [go_sem], by simp [go_sem], by simp [go_sem], by simp [go_sem], by simp [go_sem], by simp [go_sem], by simp⟩
  have HB0 : Hid (Below w.heap.size w ((w.alloc (.cells #[.int .i64 m.size, .slice ad m.gates.length cd, .slice ak m.pulls.length ck] 36)).alloc (.cells #[.int .i64 0, .slice none 0 0, .slice none 0 0] 36))) := ((Below.refl _ _).alloc (Nat.le_refl _) _).alloc (by simp) _
  have HS6 : Hid (∀ W, Below ((w.alloc (.cells #[.int .i64 m.size, .slice ad m.gates.length cd, .slice ak m.pulls.length ck] 36)).alloc (.cells #[.int .i64 0, .slice none 0 0, .slice none 0 0] 36)).heap.size ((w.alloc (.cells #[.int .i64 m.size, .slice ad m.gates.length cd, .slice ak m.pulls.length ck] 36)).alloc (.cells #[.int .i64 0, .slice none 0 0, .slice none 0 0] 36)) W → Six W w.heap.size (.int .i64 m.size) (.slice ad m.gates.length cd) (.slice ak m.pulls.length ck) (.int .i64 0) (.slice none 0 0) (.slice none 0 0)) := fun W hW => H6.later hW
  clear H6
  cases g1 : worksB m
  case false =>
    have hp' : pTurnLevers m l = (⟨0, [], []⟩, false) := by simp [pTurnLevers, g1]
    rw [hp'] at hp
    cases hp
    clear hp'
    go_enter Try.func33, Try.ntmps33
    go_wp2_with (go_at_call 141; refine (l8Works_c _ m _ (hm.later HB0.out)).mono ?_; rintro e w1 ⟨rfl, hb1⟩; have HB1 : Hid (Below w.heap.size w w1) := below_then HB0.out hb1; obtain ⟨s0, s1, s2, s3, s4, s5, s6, s7, s8, s9⟩ := HS6.out w1 hb1; rw [g1])
    refine bodyPost_ret (v := .tuple #[.agg #[.int .i64 0, .slice none 0 0, .slice none 0 0], .bool false]) (by simp [results, Try.results33, go_sem, *]) rfl ?_
    exact ⟨_, rfl, ⟨⟨none, 0, none, 0, rfl, fun k hk => by simp at hk, fun k hk => by simp at hk⟩, by simp, by simp⟩, by repeat (first | exact HB1.out | refine Below.setCell ?_ (by show w.heap.size ≤ w.heap.size + 1; omega) _)⟩
  cases g2 : setB l
  case false =>
    have hp' : pTurnLevers m l = (⟨0, [], []⟩, false) := by simp [pTurnLevers, g2]
    rw [hp'] at hp
    cases hp
    clear hp'
    go_enter Try.func33, Try.ntmps33
    go_wp2_with (first
      | (go_at_call 141; refine (l8Works_c _ m _ (hm.later HB0.out)).mono ?_; rintro e w1 ⟨rfl, hb1⟩; have HB1 : Hid (Below w.heap.size w w1) := below_then HB0.out hb1; obtain ⟨s0, s1, s2, s3, s4, s5, s6, s7, s8, s9⟩ := HS6.out w1 hb1; rw [g1])
      | (go_at_call 133; refine (l2Set_c _ _).mono ?_; rintro e w2 ⟨rfl, rfl⟩; rw [g2]))
    refine bodyPost_ret (v := .tuple #[.agg #[.int .i64 0, .slice none 0 0, .slice none 0 0], .bool false]) (by simp [results, Try.results33, go_sem, *]) rfl ?_
    exact ⟨_, rfl, ⟨⟨none, 0, none, 0, rfl, fun k hk => by simp at hk, fun k hk => by simp at hk⟩, by simp, by simp⟩, by repeat (first | exact HB1.out | refine Below.setCell ?_ (by show w.heap.size ≤ w.heap.size + 1; omega) _)⟩
  have ok := worksB_true.1 g1
  obtain ⟨l0, l64⟩ : 0 ≤ l ∧ l < 64 := by have := setB_true.1 g2; omega
  obtain ⟨ln, rfl⟩ := Int.eq_ofNat_of_zero_le l0
  have hp' : pTurnLevers m (ln : Int) = (⟨m.size, turnL ln m.gates, m.pulls⟩, true) := by simp [pTurnLevers, g1, g2]
  rw [hp'] at hp
  cases hp
  clear hp'
  go_enter Try.func33, Try.ntmps33
  go_upto_region 3 with (first
    | (go_at_call 141; refine (l8Works_c _ m _ (hm.later HB0.out)).mono ?_; rintro e w1 ⟨rfl, hb1⟩; have HB1 : Hid (Below w.heap.size w w1) := below_then HB0.out hb1; have H61 := Lib.hid (HS6.out w1 hb1); obtain ⟨s0, s1, s2, s3, s4, s5, s6, s7, s8, s9⟩ := HS6.out w1 hb1; rw [g1])
    | (go_at_call 133; refine (l2Set_c _ _).mono ?_; rintro e w2 ⟨rfl, rfl⟩; rw [g2]))
  have hz1 := HB1.out.size
  clear s0 s1 s2 s3 s4 s5 s6 s7 s8 s9
  obtain ⟨q0, q1, q2, q3, q4, q5, q6, q7, q8, q9⟩ := H61.out
  go_cut [6] (fun s6 wx => ∃ (bO bg c3 : Nat) (a3 : Option Addr), s6 = .pointer (some ⟨bO, 0, none⟩) ∧ Hid (SP wx w.heap.size bO bg 0 0 0 m.gates.length m.pulls.length cd ck c3 m.size ad ak a3 [] m.pulls) ∧ Hid (Below w.heap.size w wx))
  case first =>
    go_region_held3 (fun W => W.cell? ⟨w.heap.size, 0, none⟩ = some (.int .i64 m.size) ∧ W.cell? ⟨w.heap.size, 1, none⟩ = some (.slice ad m.gates.length cd) ∧ W.cell? ⟨w.heap.size, 2, none⟩ = some (.slice ak m.pulls.length ck))
      (first | exact ⟨q0, q1, q2⟩ | exact ⟨r0, r1, r2⟩ | (refine ⟨?_, ?_, ?_⟩ <;> (repeat rw [World.cell?_setCell_other _ _ _ _ (by intro h; have := congrArg Addr.block h; dsimp only at this; omega)]) <;> first | exact r0 | exact r1 | exact r2) | (refine ⟨?_, ?_, ?_⟩ <;> (rw [World.cell?_alloc_lt _ _ _ (by simp; omega)]) <;> (repeat rw [World.cell?_setCell_other _ _ _ _ (by intro h; have := congrArg Addr.block h; dsimp only at this; omega)]) <;> first | exact r0 | exact r1 | exact r2) | exact ⟨(H62.out.later (by (repeat (first | exact Below.refl _ _ | apply Below.drew | apply below_drewN | (refine Below.setCell ?_ (by first | omega | (simp; done) | (simp; omega) | (dsimp only; omega)) _) | (refine Below.alloc ?_ (by first | omega | (simp; done) | (simp; omega) | (dsimp only; omega)) _))))).a, (H62.out.later (by (repeat (first | exact Below.refl _ _ | apply Below.drew | apply below_drewN | (refine Below.setCell ?_ (by first | omega | (simp; done) | (simp; omega) | (dsimp only; omega)) _) | (refine Below.alloc ?_ (by first | omega | (simp; done) | (simp; omega) | (dsimp only; omega)) _))))).b, (H62.out.later (by (repeat (first | exact Below.refl _ _ | apply Below.drew | apply below_drewN | (refine Below.setCell ?_ (by first | omega | (simp; done) | (simp; omega) | (dsimp only; omega)) _) | (refine Below.alloc ?_ (by first | omega | (simp; done) | (simp; omega) | (dsimp only; omega)) _))))).c⟩ | exact ⟨(H61.out.later (by (repeat (first | exact Below.refl _ _ | apply Below.drew | apply below_drewN | (refine Below.setCell ?_ (by first | omega | (simp; done) | (simp; omega) | (dsimp only; omega)) _) | (refine Below.alloc ?_ (by first | omega | (simp; done) | (simp; omega) | (dsimp only; omega)) _))))).a, (H61.out.later (by (repeat (first | exact Below.refl _ _ | apply Below.drew | apply below_drewN | (refine Below.setCell ?_ (by first | omega | (simp; done) | (simp; omega) | (dsimp only; omega)) _) | (refine Below.alloc ?_ (by first | omega | (simp; done) | (simp; omega) | (dsimp only; omega)) _))))).b, (H61.out.later (by (repeat (first | exact Below.refl _ _ | apply Below.drew | apply below_drewN | (refine Below.setCell ?_ (by first | omega | (simp; done) | (simp; omega) | (dsimp only; omega)) _) | (refine Below.alloc ?_ (by first | omega | (simp; done) | (simp; omega) | (dsimp only; omega)) _))))).c⟩)
      (first | (go_at_call 154; refine (l1Own_c _ _ _ m.pulls _ rfl (hk'.later (HB1.out.trans (by (repeat (first | exact Below.refl _ _ | apply Below.drew | apply below_drewN | (refine Below.setCell ?_ (by first | omega | (simp; done) | (simp; omega) | (dsimp only; omega)) _) | (refine Below.alloc ?_ (by first | omega | (simp; done) | (simp; omega) | (dsimp only; omega)) _)))))) nk).mono ?_; rintro e w2 ⟨v2, rfl, ho2, hb2⟩; obtain ⟨a2, c2, rfl⟩ := own_slice ho2; have HO2 := Lib.hid (Own.of ho2); clear ho2; have B2 : Hid (Below w1.heap.size w1 w2) := below_then (by (repeat (first | exact Below.refl _ _ | apply Below.drew | apply below_drewN | (refine Below.setCell ?_ (by first | omega | (simp; done) | (simp; omega) | (dsimp only; omega)) _) | (refine Below.alloc ?_ (by first | omega | (simp; done) | (simp; omega) | (dsimp only; omega)) _)))) hb2; have hz2 := hb2.size; have hzz2 := B2.out.size; have H62 := Lib.hid (H61.out.later B2.out); (try (have hA := outA hb2; obtain ⟨t0, t1, t2, tf0, tf1, tf2, tz⟩ := hA; (try simp only [World.size_alloc] at t0 t1 t2 tf0 tf1 tf2 tz))); (try (have hA := outB hb2; obtain ⟨t0, t1, t2, tf0, tf1, tf2, tz⟩ := hA; (try simp only [World.size_alloc] at t0 t1 t2 tf0 tf1 tf2 tz))); have HB2 := Lib.hid hb2; clear hb2; obtain ⟨r0, r1, r2, r3, r4, r5, r6, r7, r8, r9⟩ := H62.out))
    all_goals
      go_wp2_with fail
      go_meet
    case rel =>
      have h1 : w.heap.size + 1 < w1.heap.size := H61.out.sz
      have hB2 : Below w.heap.size w w2 := HB1.out.trans (B2.out.mono hz1)
      have hI2 := ic_of' HO2.out rfl
      have hzs := hz2
      simp only [World.size_alloc, World.size_drew] at hzs
      have hPL : ∀ b off, a2 = some ⟨b, off, none⟩ → 0 < m.pulls.length → w.heap.size + 2 ≤ b := fun b off e h0 => by
        obtain ⟨g5, c5, hv5, -, -⟩ := own_someS HO2.out.row h0
        have e5 := (Value.slice.inj hv5).1
        rw [e] at e5
        cases e5
        have := (HO2.out.blocks _ (by rw [hv5]; rfl)).1
        simp at this
        omega
      exact ⟨w2.heap.size, w1.heap.size, c2, a2, rfl, SP.new H62.out hI2 (by omega) (by omega) hPL, hB2.alloc hB2.size _⟩
    case rel =>
      have h1 : w.heap.size + 1 < w1.heap.size := H61.out.sz
      have hB2 : Below w.heap.size w w2 := HB1.out.trans (B2.out.mono hz1)
      have hI2 := ic_of' HO2.out rfl
      have hzs := hz2
      simp only [World.size_alloc, World.size_drew] at hzs
      have hPL : ∀ b off, a2 = some ⟨b, off, none⟩ → 0 < m.pulls.length → w.heap.size + 2 ≤ b := fun b off e h0 => by
        obtain ⟨g5, c5, hv5, -, -⟩ := own_someS HO2.out.row h0
        have e5 := (Value.slice.inj hv5).1
        rw [e] at e5
        cases e5
        have := (HO2.out.blocks _ (by rw [hv5]; rfl)).1
        simp at this
        omega
      exact ⟨w1.heap.size + 1, w1.heap.size, c2, a2, rfl, SP.set H62.out hI2 (by omega) (by omega) (by omega) (fun b off e h0 => by
        obtain ⟨g5, c5, hv5, -, -⟩ := own_someS HO2.out.row h0
        have e5 := (Value.slice.inj hv5).1
        rw [e] at e5
        cases e5
        have := (HO2.out.blocks _ (by rw [hv5]; rfl)).1
        simp at this
        omega) (by omega) hPL t0 t1 t2 tf1 _ (Below.refl _ _) (by simp; omega), (by repeat (first | exact hB2 | refine Below.setCell ?_ (by show w.heap.size ≤ w1.heap.size + 1; omega) _))⟩
    case rel =>
      have h1 : w.heap.size + 1 < w1.heap.size := H61.out.sz
      have hB2 : Below w.heap.size w w2 := HB1.out.trans (B2.out.mono hz1)
      have hI2 := ic_of' HO2.out rfl
      have hzs := hz2
      simp only [World.size_alloc, World.size_drew] at hzs
      have hPL : ∀ b off, a2 = some ⟨b, off, none⟩ → 0 < m.pulls.length → w.heap.size + 2 ≤ b := fun b off e h0 => by
        obtain ⟨g5, c5, hv5, -, -⟩ := own_someS HO2.out.row h0
        have e5 := (Value.slice.inj hv5).1
        rw [e] at e5
        cases e5
        have := (HO2.out.blocks _ (by rw [hv5]; rfl)).1
        simp at this
        omega
      have hA : Below w2.heap.size w2 (w2.alloc (.cells #[] 54)) := (Below.refl _ _).alloc (Nat.le_refl _) _
      have h7 := SP.new (T := 36) (c3 := c2) (H62.out.later hA) (hI2.later hA) (bg := w2.heap.size) (by simp) (by omega) hPL
      simp only [World.size_alloc] at h7
      exact ⟨w2.heap.size + 1, w2.heap.size, c2, a2, rfl, h7, (hB2.alloc hB2.size _).alloc (by simp; have := hB2.size; omega) _⟩
    case rel =>
      have h1 : w.heap.size + 1 < w1.heap.size := H61.out.sz
      have hB2 : Below w.heap.size w w2 := HB1.out.trans (B2.out.mono hz1)
      have hI2 := ic_of' HO2.out rfl
      have hzs := hz2
      simp only [World.size_alloc, World.size_drew] at hzs
      have hPL : ∀ b off, a2 = some ⟨b, off, none⟩ → 0 < m.pulls.length → w.heap.size + 2 ≤ b := fun b off e h0 => by
        obtain ⟨g5, c5, hv5, -, -⟩ := own_someS HO2.out.row h0
        have e5 := (Value.slice.inj hv5).1
        rw [e] at e5
        cases e5
        have := (HO2.out.blocks _ (by rw [hv5]; rfl)).1
        simp at this
        omega
      exact ⟨w2.heap.size, w2.heap.size + 1, c2, a2, rfl, SP.new4 H62.out hI2 hPL, (hB2.alloc hB2.size _).alloc (by simp; have := hB2.size; omega) _⟩
    case rel =>
      have h1 : w.heap.size + 1 < w1.heap.size := H61.out.sz
      have hB2 : Below w.heap.size w w2 := HB1.out.trans (B2.out.mono hz1)
      have hI2 := ic_of' HO2.out rfl
      have hzs := hz2
      simp only [World.size_alloc, World.size_drew] at hzs
      have hPL : ∀ b off, a2 = some ⟨b, off, none⟩ → 0 < m.pulls.length → w.heap.size + 2 ≤ b := fun b off e h0 => by
        obtain ⟨g5, c5, hv5, -, -⟩ := own_someS HO2.out.row h0
        have e5 := (Value.slice.inj hv5).1
        rw [e] at e5
        cases e5
        have := (HO2.out.blocks _ (by rw [hv5]; rfl)).1
        simp at this
        omega
      exact ⟨w1.heap.size, w1.heap.size + 1, c2, a2, rfl, SP.set H62.out hI2 (by omega) (by omega) (by omega) (fun b off e h0 => by
        obtain ⟨g5, c5, hv5, -, -⟩ := own_someS HO2.out.row h0
        have e5 := (Value.slice.inj hv5).1
        rw [e] at e5
        cases e5
        have := (HO2.out.blocks _ (by rw [hv5]; rfl)).1
        simp at this
        omega) (by omega) hPL t0 t1 t2 tf1 _ (Below.refl _ _) (by simp; omega), (by repeat (first | exact hB2 | refine Below.setCell ?_ (by show w.heap.size ≤ w1.heap.size; omega) _))⟩
    case rel =>
      have h1 : w.heap.size + 1 < w1.heap.size := H61.out.sz
      have hB2 : Below w.heap.size w w2 := HB1.out.trans (B2.out.mono hz1)
      have hI2 := ic_of' HO2.out rfl
      have hzs := hz2
      simp only [World.size_alloc, World.size_drew] at hzs
      have hPL : ∀ b off, a2 = some ⟨b, off, none⟩ → 0 < m.pulls.length → w.heap.size + 2 ≤ b := fun b off e h0 => by
        obtain ⟨g5, c5, hv5, -, -⟩ := own_someS HO2.out.row h0
        have e5 := (Value.slice.inj hv5).1
        rw [e] at e5
        cases e5
        have := (HO2.out.blocks _ (by rw [hv5]; rfl)).1
        simp at this
        omega
      exact ⟨w1.heap.size, w2.heap.size, c2, a2, rfl, SP.set H62.out hI2 (by omega) (by omega) (by omega) (fun b off e h0 => by
        obtain ⟨g5, c5, hv5, -, -⟩ := own_someS HO2.out.row h0
        have e5 := (Value.slice.inj hv5).1
        rw [e] at e5
        cases e5
        have := (HO2.out.blocks _ (by rw [hv5]; rfl)).1
        simp at this
        omega) (by omega) hPL t0 t1 t2 tf1 _ ((Below.refl _ _).alloc (Nat.le_refl _) _) (by simp), (by refine Below.alloc ?_ (by simp; have := hB2.size; omega) _; repeat (first | exact hB2 | refine Below.setCell ?_ (by show w.heap.size ≤ w1.heap.size; omega) _))⟩
  case rest =>
    obtain ⟨bO, bg0, c3, a3, rfl, HT, HB⟩ := hcut
    have OK := Lib.hid ok
    have HNG : Hid (m.gates.length ≤ 4096) := by have := ok.ng; show _ ≤ _; omega
    have HNP : Hid (m.pulls.length ≤ 1048576) := nk
    have HD : Hid (∀ W, Below w.heap.size w W → D4C W ad m.gates) := fun W hW => hd.later hW
    clear q0 q1 q2 q3 q4 q5 q6 q7 q8 q9 ok hd hk' nk nd hm H61 HB1 HS6 HB0
    have hob := HT.out.ob
    go_wp2
    go_loopw [7] (fun iv wr => ∃ (k bg og cg tl : Nat) (T : List D4), iv = .int .i64 k ∧ k ≤ m.gates.length ∧ tl ≤ k ∧ Hid (T = turnK ln m.gates k) ∧ Hid (SP wr w.heap.size bO bg og cg tl m.gates.length m.pulls.length cd ck c3 m.size ad ak a3 T m.pulls) ∧ Hid (Below w.heap.size w wr)) (fun iv _ => m.gates.length - (intOf iv).toNat)
    case atStart => exact ⟨0, bg0, 0, 0, 0, [], rfl, Nat.zero_le _, Nat.le_refl _, rfl, HT, HB⟩
    case round =>
      clear HT HB hob
      obtain ⟨wo, rfl⟩ : ∃ wo : World, wo = wr := ⟨_, rfl⟩
      obtain ⟨k, bg, og, cg, tl, T, rfl, hk, htk, HTK, HT, HB⟩ := hrel
      obtain ⟨q0, q1, q2, q3, q4, q5, q6, q7, q8, q9⟩ := HT.out.six
      have hzo := HB.out.size
      by_cases hlt : k < m.gates.length
      · have hltI : (k : Int) < (m.gates.length : Int) := by omega
        obtain ⟨b5, o5, x, y, z, u, rfl, HG, hbs5, e0, e1, e2, e3⟩ := (HD.out wo HB.out).at k hlt
        obtain ⟨f1, f2, f3, f4, f5, f6, f7⟩ := gate_facts OK.out hlt HG.out
        obtain ⟨zn, rfl⟩ := Int.eq_ofNat_of_zero_le f4
        obtain ⟨un, rfl⟩ := Int.eq_ofNat_of_zero_le f6
        obtain ⟨y0, hy0⟩ : ∃ y0, y0 = zn &&& ln := ⟨_, rfl⟩
        have hy64 : y0 < 64 := by rw [hy0]; exact and_lt64 ln (by omega)
        have ea : bits .and .i64 (zn : Int) (ln : Int) = (y0 : Int) := by rw [hy0]; exact i64_and zn ln (by omega) (by omega)
        obtain ⟨pv, hpv⟩ : ∃ pv : Nat, pv = popN y0 % 2 := ⟨_, rfl⟩
        have HPV : Hid (popc y0 % 2 = (pv : Int)) := by show _ = _; rw [hpv]; unfold popc; omega
        obtain ⟨tv, htv⟩ : ∃ tv : Nat, tv = un ^^^ pv := ⟨_, rfl⟩
        have eo : bits .xor .i64 (un : Int) (pv : Int) = (tv : Int) := by rw [htv]; exact i64_xor un pv (by omega) (by omega)
        have HTN : Hid (putG T (x, y, (zn : Int), (tv : Int)) = turnK ln m.gates (k + 1)) := by
          show _ = _
          rw [turnK_step hlt, ← HTK.out, HG.out]
          unfold turnG turnD
          simp only [Int.toNat_natCast]
          rw [← hy0, ← hpv, ← htv]
        have HLP := Lib.hid (putG_len T (x, y, (zn : Int), (tv : Int)))
        have HODD : Hid (∀ W, Calls Try.prog 156 #[.int .i64 (zn : Int), .int .i64 (ln : Int)] W fun e w' => e = .returned (.int .i64 (pv : Int)) ∧ w' = W) := fun W => (l8Odd_c zn ln y0 hy64 ea W).mono (fun e w' h => ⟨by rw [h.1, HPV.out], h.2.symm⟩)
        clear hpv htv hy0 f1 f2 f3 f4 f5 f6 f7 HG
        go_upto_region 8 with fail
        obtain ⟨wv, hwv⟩ : ∃ wv, wv = wo.alloc (.cells #[.int .i64 x, .int .i64 y, .int .i64 (zn : Int), .int .i64 (un : Int)] 54) := ⟨_, rfl⟩
        have hA : Below wo.heap.size wo wv := by rw [hwv]; exact (Below.refl _ _).alloc (Nat.le_refl _) _
        have hwz : wv.heap.size = wo.heap.size + 1 := by rw [hwv]; simp
        have p0 : wv.cell? ⟨wo.heap.size, 0, none⟩ = some (.int .i64 x) := by rw [hwv]; simp [go_sem]
        have p1 : wv.cell? ⟨wo.heap.size, 1, none⟩ = some (.int .i64 y) := by rw [hwv]; simp [go_sem]
        have p2 : wv.cell? ⟨wo.heap.size, 2, none⟩ = some (.int .i64 (zn : Int)) := by rw [hwv]; simp [go_sem]
        have p3 : wv.cell? ⟨wo.heap.size, 3, none⟩ = some (.int .i64 (un : Int)) := by rw [hwv]; simp [go_sem]
        rw [← hwv]
        have HTV : Hid (SP wv w.heap.size bO bg og cg tl m.gates.length m.pulls.length cd ck c3 m.size _ ak a3 T m.pulls) := HT.out.later hA
        have o1 := HTV.out.o1
        have fo := HTV.out.fo
        have hob : bO < wv.heap.size := HTV.out.ob
        have hobo : bO < wo.heap.size := HT.out.ob
        have hbO : bO ≠ wo.heap.size := by omega
        have HBV : Hid (Below w.heap.size w wv) := HB.out.trans (hA.mono HB.out.size)
        have hwl : wo.heap.size < wv.heap.size := by omega
        have hbgv : bg < wv.heap.size := HTV.out.bs
        have htl := HNG.out
        clear hwv e0 e1 e2 e3 HT HB hA q0 q1 q2 q3 q4 q5 q6 q7 q8 q9 hwz ea
        refine wp_region_tail 16 (by kernel_rfl) (by kernel_rfl) ?_
        simp only [List.take_succ_cons, List.take_zero, List.drop_succ_cons, List.drop_zero]
        repeat (first | still_step | still_call (HODD.out _))
        refine wpStill_nil ?_
        go_wp2_with fail
        refine (l8Put_c bg og cg tl T x y zn tv _ HTV.out.tle (by exact hbgv) (HTV.out.later (by (repeat (first | exact Below.refl _ _ | apply Below.drew | apply below_drewN | (refine Below.setCell ?_ (by first | omega | (simp; done) | (simp; omega) | (dsimp only; omega)) _) | (refine Below.alloc ?_ (by first | omega | (simp; done) | (simp; omega) | (dsimp only; omega)) _))))).cv HTV.out.cl HTV.out.cm (by omega)).mono ?_
        rintro e w3 ⟨b', off', c', n', rfl, hl', hc1, hc2, hcv, hbs', hor, hb3⟩
        have B3 : Hid (Below wv.heap.size wv w3) := below_then (by (repeat (first | exact Below.refl _ _ | apply Below.drew | apply below_drewN | (refine Below.setCell ?_ (by first | omega | (simp; done) | (simp; omega) | (dsimp only; omega)) _) | (refine Below.alloc ?_ (by first | omega | (simp; done) | (simp; omega) | (dsimp only; omega)) _)))) hb3
        have HT3 := Lib.hid (HTV.out.later B3.out)
        have o3 := HT3.out.o1
        have fo3 := HT3.out.fo
        have HCV := Lib.hid hcv
        have HL' := Lib.hid hl'
        have hne : b' ≠ bO := by
          rcases hor with h | h
          · exact fun e => HTV.out.ne (by rw [← h]; exact e)
          · exact fun e => absurd hob (by rw [← e]; have h2 : wv.heap.size ≤ b' := h; omega)
        have hbl' : w.heap.size + 2 ≤ b' := by
          rcases hor with h | h
          · rw [h]; exact HTV.out.bl
          · have h2 : wv.heap.size ≤ b' := h
            have := HTV.out.six.sz
            omega
        clear hcv hl' hb3 hor o1 fo
        go_wp2
        go_roundw
        case rel =>
          have h4 := HT3.out.store (T' := putG T (x, y, (zn : Int), (tv : Int))) HCV.out HL'.out hbs' hne hc1 hc2 hbl'
          have hn' : n' ≤ k + 1 := by have := HL'.out; have := HLP.out; have := HTV.out.tle; omega
          have h5 : Below w.heap.size w w3 := HBV.out.trans (B3.out.mono HBV.out.size)
          have h6 : Below w.heap.size w (w3.setCell ⟨bO, 1, none⟩ (.slice (some ⟨b', off', none⟩) n' c')) := h5.setCell (p := ⟨bO, 1, none⟩) (by have := HT3.out.lb; show w.heap.size ≤ bO; omega) _
          exact ⟨k + 1, b', off', c', n', _, by go_num, by omega, hn', HTN, h4.later (by (repeat (first | exact Below.refl _ _ | apply Below.drew | apply below_drewN | (refine Below.setCell ?_ (by first | omega | (simp; done) | (simp; omega) | (dsimp only; omega)) _) | (refine Below.alloc ?_ (by first | omega | (simp; done) | (simp; omega) | (dsimp only; omega)) _)))), h6.trans (by (repeat (first | exact Below.refl _ _ | apply Below.drew | apply below_drewN | (refine Below.setCell ?_ (by first | omega | (simp; done) | (simp; omega) | (dsimp only; omega)) _) | (refine Below.alloc ?_ (by first | omega | (simp; done) | (simp; omega) | (dsimp only; omega)) _))))⟩
        case measure => simp [intOf]; omega
      · obtain rfl : k = m.gates.length := by omega
        have o0 := HT.out.o0
        have o1 := HT.out.o1
        have o2 := HT.out.o2
        have hob := HT.out.ob
        have hlb := HT.out.lb
        have HTG : Hid (T = turnL ln m.gates) := HTK.out
        go_wp2
        refine bodyPost_ret (v := .tuple #[.agg #[.int .i64 m.size, .slice (some ⟨bg, og, none⟩) tl cg, .slice a3 m.pulls.length c3], .bool true]) (by simp [results, Try.results33, go_sem, *]) rfl ?_
        rw [← HTG.out]
        have hc : ∀ W', Chg (w.heap.size + 1) (w.heap.size + 2) wo W' → WkAt W' (.agg #[.int .i64 m.size, .slice (some ⟨bg, og, none⟩) tl cg, .slice a3 m.pulls.length c3]) ⟨m.size, T, m.pulls⟩ := by
          intro W' hc
          have hbs := HT.out.bs
          have hbl := HT.out.bl
          have hcv : CVQ W' bg og (c4 T) := by
            intro j u hu
            have h1 := HT.out.cv j u hu
            rw [add_at rfl] at h1 ⊢
            rw [hc.cell (p := ⟨bg, og + j, none⟩) hbs (by show bg < _ ∨ _ ≤ bg; omega)]; exact h1
          have hic : IC W' a3 m.pulls := by
            intro q hq
            obtain ⟨b, off, ha, hb, hcell⟩ := HT.out.p q hq
            have := HT.out.pl b off ha (by omega)
            exact ⟨b, off, ha, Nat.lt_of_lt_of_le hb hc.size, by rw [hc.cell (p := ⟨b, off + q, none⟩) hb (by show b < _ ∨ _ ≤ b; omega)]; exact hcell⟩
          refine ⟨⟨some ⟨bg, og, none⟩, cg, a3, c3, by rw [← HT.out.tle], hcv.d4 (Nat.lt_of_lt_of_le hbs hc.size), hic⟩, ?_, HNP.out⟩
          show T.length ≤ 1048576
          have := HT.out.tle
          have := HNG.out
          omega
        have k : ∀ (W : World) o v, Chg (w.heap.size + 1) (w.heap.size + 2) W (W.setCell ⟨w.heap.size + 1, o, none⟩ v) := fun W o v => Chg.of_grown (grown_setCell W ⟨w.heap.size + 1, o, none⟩ v) (fun g hg => by cases hg; exact ⟨Nat.le_refl _, Nat.lt_succ_self _⟩)
        refine ⟨_, rfl, hc _ (((k _ _ _).trans (k _ _ _)).trans (k _ _ _)), ?_⟩
        repeat (first | exact HB.out | refine Below.setCell ?_ (by show w.heap.size ≤ w.heap.size + 1; omega) _)
end Go.Proofs.Ytmilpahggceemaa

namespace Go.KD
open Go.RowKit
theorem pTurnLevers_len (m : Wk) (l : Int) : (pTurnLevers m l).1.gates.length ≤ 100000 ∧ (pTurnLevers m l).1.pulls.length ≤ 100000 := by
  unfold pTurnLevers
  split
  · rename_i hb
    rw [Bool.and_eq_true] at hb
    have ok := worksB_true.1 hb.1
    have h1 := ok.ng
    have h2 := ok.np
    have h3 := ok.s2
    have h4 := turnL_len l m.gates
    refine ⟨?_, ?_⟩
    · show (turnL l m.gates).length ≤ 100000
      omega
    · show m.pulls.length ≤ 100000
      omega
  · exact ⟨by simp, by simp⟩
end Go.KD
