/- Contract of l7Search. -/
import Derived.Test.YtbaahghfjmkeoaaKdSrch1
import Derived.Test.YtbaahghfjmkeoaaKdSwap
set_option linter.unusedVariables false
set_option linter.unusedSimpArgs false
namespace Go.KD
open Go.RowKit
def codesE (m : Mz) (E : List En) : List Int := E.map fun e => ((cdF m (hasI e.1) : Nat) : Int)
@[simp] theorem codesE_len (m : Mz) (E : List En) : (codesE m E).length = E.length := by simp [codesE]
def lisE (E : List En) : List (List Int) := E.map (·.1)
@[simp] theorem lisE_len (E : List En) : (lisE E).length = E.length := by simp [lisE]
theorem lisE_at {E : List En} {i : Nat} (hi : i < E.length) : (lisE E)[i]! = (E[i]!).1 := by
  rw [getElem!_pos (lisE E) i (by simpa using hi), getElem!_pos E i hi]; simp [lisE]
/-- The state of the search. -/
structure SrSt (W W0 : World) (eS eI : TypeId) (q g c gc cc : Nat) (vs : List Value) (m : Mz) (E : List En) : Prop where
  row : RwS false W W0.heap.size eS eI g c gc q vs (lisE E)
  cod : W.ownsRow W0.heap.size eI 1 (.slice (some ⟨gc, 0, none⟩) E.length cc) E.length (ints (codesE m E))
  c0 : W.cell? ⟨q, 0, none⟩ = some (.slice (some ⟨g, 0, none⟩) E.length c)
  c1 : W.cell? ⟨q, 1, none⟩ = some (.slice (some ⟨gc, 0, none⟩) E.length cc)
  f0 : W.frozen? ⟨q, 0, none⟩ = false
  f1 : W.frozen? ⟨q, 1, none⟩ = false
  n1 : gc ≠ g
  n2 : g ≠ q
  n3 : gc ≠ q
  lq : W0.heap.size ≤ q
  lt : q < W.heap.size
  gl : gc < W.heap.size
  bel : Below W0.heap.size W0 W
theorem SrSt.later {W W' W0 : World} {eS eI : TypeId} {q g c gc cc : Nat} {vs : List Value} {m : Mz} {E : List En} (h : SrSt W W0 eS eI q g c gc cc vs m E) (hb : Below W.heap.size W W') : SrSt W' W0 eS eI q g c gc cc vs m E :=
  ⟨h.row.later hb, ((Own.of h.cod).later hb (Nat.le_refl _)).row, (hb.cell (p := ⟨q, 0, none⟩) h.lt).trans h.c0, (hb.cell (p := ⟨q, 1, none⟩) h.lt).trans h.c1, (hb.frozen (p := ⟨q, 0, none⟩) h.lt).trans h.f0, (hb.frozen (p := ⟨q, 1, none⟩) h.lt).trans h.f1, h.n1, h.n2, h.n3, h.lq, Nat.lt_of_lt_of_le h.lt hb.size, Nat.lt_of_lt_of_le h.gl hb.size, h.bel.trans (hb.mono h.bel.size)⟩
theorem codes_has {m : Mz} (ok : MzOk m) {E : List En} (hE : ∀ e ∈ E, Opn m e.1 e.2) {L : List Int} {O : Nat} (h : Opn m L O) : hasI (codesE m E) ((cdF m (hasI L) : Nat) : Int) = E.any (fun e => e.2 == O) := by
  rw [Bool.eq_iff_iff, hasI_iff, List.any_eq_true]
  unfold codesE
  simp only [List.mem_map, beq_iff_eq]
  constructor
  · rintro ⟨e, he, hee⟩
    exact ⟨e, he, (cd_eq ok (hE e he) h).1 (by omega)⟩
  · rintro ⟨e, he, rfl⟩
    exact ⟨e, he, by rw [(cd_eq ok (hE e he) h).2 rfl]⟩
end Go.KD
namespace Go.KD
open Go.RowKit
theorem RwE.move {own : Bool} {W W' : World} {lo : Nat} {eI : TypeId} {g g' x y : Nat} {v : Value} {L : List Int} (h : RwE own W lo eI g x y v L) (hg : W.grownBy W' (some g)) (hat : g = g' ∨ W.heap.size ≤ g') : RwE own W' lo eI g' x y v L := by
  have h1 := h.grown hg (.inl rfl)
  refine ⟨h1.ic, fun b hb hp => ?_, h1.ow⟩
  obtain ⟨n1, n2, n3, n4⟩ := h1.ne b hb hp
  obtain ⟨m1, m2, m3, m4⟩ := h.ne b hb hp
  exact ⟨by omega, n2, n3, n4⟩
theorem RwE.moveX {own : Bool} {W W' : World} {lo : Nat} {eI : TypeId} {g x x' y : Nat} {v : Value} {L : List Int} (h : RwE own W lo eI g x y v L) (hg : W.grownBy W' (some x)) (hat : x = x' ∨ W.heap.size ≤ x') : RwE own W' lo eI g x' y v L := by
  have h1 := h.grown hg (.inr (.inl rfl))
  refine ⟨h1.ic, fun b hb hp => ?_, h1.ow⟩
  obtain ⟨n1, n2, n3, n4⟩ := h1.ne b hb hp
  obtain ⟨m1, m2, m3, m4⟩ := h.ne b hb hp
  exact ⟨n1, by omega, n3, n4⟩
theorem RwS.moveX {own : Bool} {W W' : World} {lo : Nat} {eS eI : TypeId} {g c x x' y : Nat} {vs : List Value} {Ls : List (List Int)} (h : RwS own W lo eS eI g c x y vs Ls) (hg : W.grownBy W' (some x)) (hat : x = x' ∨ W.heap.size ≤ x') (hne : x ≠ g) : RwS own W' lo eS eI g c x' y vs Ls :=
  ⟨((Own.of h.row).grown_ne hg (fun b hb e => by cases e; cases hb; exact hne rfl)).row, fun i hi => (h.each i hi).moveX hg hat, Nat.lt_of_lt_of_le h.gs hg.size⟩
theorem own_lit1 {W : World} {g lo : Nat} {e : TypeId} {v : Value} (h : W.heap[g]? = some (.cells #[v] e)) (hb : lo ≤ g) : W.ownsRow lo e 1 (.slice (some ⟨g, 0, none⟩) 1 1) 1 [v] :=
  ⟨rfl, .inr ⟨g, 1, #[v], rfl, hb, h, Nat.le_refl _, by unfold maxLen; omega, rfl, rfl⟩⟩
theorem ic_setV {w : World} {a : Option Addr} {l : List Int} {p : Addr} {x : Option Addr} {n c : Nat} (h : IC w a l) (hc : w.cell? p = some (.slice x n c)) (u : Value) : IC (w.setCell p u) a l := by
  intro k hk
  obtain ⟨b, off, ha, hbs, h0⟩ := h k hk
  refine ⟨b, off, ha, by simpa using hbs, ?_⟩
  rw [World.cell?_setCell_other _ _ _ _ (fun e => by rw [e, h0] at hc; cases hc)]
  exact h0
theorem RwS.setV {W : World} {lo : Nat} {eS eI : TypeId} {g c x y : Nat} {vs : List Value} {Ls : List (List Int)} {p : Addr} {x0 : Option Addr} {n0 c0 : Nat} (h : RwS false W lo eS eI g c x y vs Ls) (hc : W.cell? p = some (.slice x0 n0 c0)) (hne : p.block ≠ g) (u : Value) : RwS false (W.setCell p u) lo eS eI g c x y vs Ls := by
  refine ⟨((Own.of h.row).grown_ne (grown_setCell W p u) (fun b hb e => by cases e; cases hb; exact hne rfl)).row, fun i hi => ?_, by simpa using h.gs⟩
  have he := h.each i hi
  obtain ⟨a, c', hv, hi'⟩ := he.ic
  exact ⟨⟨a, c', hv, ic_setV hi' hc u⟩, fun b hb hp => by obtain ⟨h1, h2, h3, h4⟩ := he.ne b hb hp; exact ⟨h1, h2, h3, by simpa using h4⟩, fun h => by cases h⟩
theorem cell_new_set (w : World) (p : Addr) (u v : Value) {e : TypeId} : ((w.setCell p u).alloc (.cells #[v] e)).cell? ⟨w.heap.size, 0, none⟩ = some v := by
  have h := heap_alloc_new (w.setCell p u) (.cells #[v] e)
  have hz : (w.setCell p u).heap.size = w.heap.size := by simp
  rw [hz] at h
  have h' : ((w.setCell p u).alloc (.cells #[v] e)).heap[w.heap.size]? = some (.cells #[v] e) := h
  unfold World.cell?
  simp only [h']
  rfl
theorem addE_no {L : List Int} {O : Nat} {E : List En} {k : Int} (h : E.any (fun e => e.2 == setN O k) = true) : addE L O E k = E := by unfold addE; rw [h]; rfl
theorem addE_yes {L : List Int} {O : Nat} {E : List En} {k : Int} (h : E.any (fun e => e.2 == setN O k) = false) : addE L O E k = E ++ [(L ++ [k], setN O k)] := by unfold addE; rw [h]; rfl
theorem cell_ne {w w' : World} {z q o : Nat} {v : Value} (hg : w.grownBy w' (some z)) (hq : q < w.heap.size) (hne : z ≠ q) (h : w.cell? ⟨q, o, none⟩ = some v) : w'.cell? ⟨q, o, none⟩ = some v := by
  rw [← h]; exact World.cell?_of_block (hg.block q hq (fun e => hne (by cases e; rfl)))
theorem frozen_ne {w w' : World} {z q o : Nat} (hg : w.grownBy w' (some z)) (hq : q < w.heap.size) (hne : z ≠ q) (h : w.frozen? ⟨q, o, none⟩ = false) : w'.frozen? ⟨q, o, none⟩ = false := by
  rw [← h]; exact hg.frozen_far ⟨q, o, none⟩ hq (by intro e; cases e; exact hne rfl)
theorem srst_start {w3 : World} {tS tI t59 : TypeId} {a : Option Addr} {c : Nat} {m : Mz} {L : List Int} {O : Nat} (hL : IC w3 a L) : SrSt (((w3.alloc (.cells #[.slice a L.length c] tS)).alloc (.cells #[.int .i64 ((cdF m (hasI L) : Nat) : Int)] tI)).alloc (.cells #[.slice (some ⟨w3.heap.size, 0, none⟩) 1 1, .slice (some ⟨w3.heap.size + 1, 0, none⟩) 1 1] t59)) w3 tS tI (w3.heap.size + 2) w3.heap.size 1 (w3.heap.size + 1) 1 [.slice a L.length c] m [((L, O) : En)] := by
  obtain ⟨W, hW⟩ : ∃ W, W = (((w3.alloc (.cells #[.slice a L.length c] tS)).alloc (.cells #[.int .i64 ((cdF m (hasI L) : Nat) : Int)] tI)).alloc (.cells #[.slice (some ⟨w3.heap.size, 0, none⟩) 1 1, .slice (some ⟨w3.heap.size + 1, 0, none⟩) 1 1] t59)) := ⟨_, rfl⟩
  have hb : Below w3.heap.size w3 W := by rw [hW]; exact ((((Below.refl _ _).alloc (by simp) _).alloc (by simp) _).alloc (by simp; omega) _)
  have hz : W.heap.size = w3.heap.size + 3 := by rw [hW]; simp
  have h0 : W.heap[w3.heap.size]? = some (.cells #[.slice a L.length c] tS) := by
    rw [hW]
    show (Array.push (Array.push (Array.push w3.heap _) _) _)[w3.heap.size]? = _
    rw [Array.getElem?_push_lt (by simp; omega), Array.getElem_push_lt (by simp), Array.getElem_push_eq]
  have h1 : W.heap[w3.heap.size + 1]? = some (.cells #[.int .i64 ((cdF m (hasI L) : Nat) : Int)] tI) := by
    rw [hW]
    show (Array.push (Array.push (Array.push w3.heap _) _) _)[w3.heap.size + 1]? = _
    rw [Array.getElem?_push_lt (by simp), Array.getElem_push, dif_neg (by simp)]
  have h2 : W.heap[w3.heap.size + 2]? = some (.cells #[.slice (some ⟨w3.heap.size, 0, none⟩) 1 1, .slice (some ⟨w3.heap.size + 1, 0, none⟩) 1 1] t59) := by
    rw [hW]
    show (Array.push (Array.push (Array.push w3.heap _) _) _)[w3.heap.size + 2]? = _
    have : w3.heap.size + 2 = (Array.push (Array.push w3.heap (.cells #[.slice a L.length c] tS)) (.cells #[.int .i64 ((cdF m (hasI L) : Nat) : Int)] tI)).size := by simp
    rw [this, Array.getElem?_push_size]
  rw [← hW]
  refine ⟨⟨own_lit1 h0 (Nat.le_refl _), fun i hi => ?_, by omega⟩, own_lit1 h1 (by omega), by simp [World.cell?, h2], by simp [World.cell?, h2], by simp [World.frozen?, h2], by simp [World.frozen?, h2], by omega, by omega, by omega, by omega, by omega, by omega, hb⟩
  have : i = 0 := by simpa using hi
  subst this
  refine ⟨⟨a, c, rfl, hL.later hb⟩, fun b hbb hp => ?_, fun h => by cases h⟩
  have hp' : 0 < L.length := by rcases hp with h | h; (cases h); exact h
  obtain ⟨b', off, ha, hbs, _⟩ := hL 0 hp'
  subst ha
  have : b' = b := by simpa [Value.ownBlock] using hbb
  omega
theorem srst_push {W W0 w5 w6 : World} {eS eI : TypeId} {q g c gc cc g5 c5 gc6 cc6 : Nat} {vs : List Value} {m : Mz} {E : List En} (h : SrSt W W0 eS eI q g c gc cc vs m E) {v : Value} {L : List Int} (O' : Nat) (he : RwE false W W0.heap.size eI g gc q v L) (o1 o2 : Obj)
    (own5 : w5.ownsRow W0.heap.size eS 1 (.slice (some ⟨g5, 0, none⟩) (E.length + 1) c5) (E.length + 1) (vs ++ [v])) (hg5 : (W.alloc o1).grownBy w5 (some g)) (hat5 : g = g5 ∨ g5 = W.heap.size + 1) (hlt5 : g5 < w5.heap.size)
    (own6 : w6.ownsRow W0.heap.size eI 1 (.slice (some ⟨gc6, 0, none⟩) (E.length + 1) cc6) (E.length + 1) (ints (codesE m E) ++ [.int .i64 ((cdF m (hasI L) : Nat) : Int)])) (hg6 : ((w5.setCell ⟨q, 0, none⟩ (.slice (some ⟨g5, 0, none⟩) (E.length + 1) c5)).alloc o2).grownBy w6 (some gc)) (hat6 : gc = gc6 ∨ gc6 = w5.heap.size + 1) (hlt6 : gc6 < w6.heap.size) :
    SrSt (w6.setCell ⟨q, 1, none⟩ (.slice (some ⟨gc6, 0, none⟩) (E.length + 1) cc6)) W0 eS eI q g5 c5 gc6 cc6 (vs ++ [v]) m (E ++ [(L, O')]) ∧
    ∀ u M, RwE false W W0.heap.size eI g gc q u M → RwE false (w6.setCell ⟨q, 1, none⟩ (.slice (some ⟨gc6, 0, none⟩) (E.length + 1) cc6)) W0.heap.size eI g5 gc6 q u M := by
  have hA : Below W.heap.size W (W.alloc o1) := (Below.refl _ _).alloc (Nat.le_refl _) o1
  have h1 := h.later hA
  have z0 : (W.alloc o1).heap.size = W.heap.size + 1 := by simp
  have z1 := hg5.size
  have hat5' : g = g5 ∨ (W.alloc o1).heap.size ≤ g5 := by
    rcases hat5 with h | h
    · exact .inl h
    · exact .inr (by omega)
  have lq := h.lq
  have lt := h.lt
  have gl := h.gl
  have gs := h.row.gs
  have n1 := h.n1
  have n2 := h.n2
  have n3 := h.n3
  obtain ⟨R2, r2a, r2b⟩ := h1.row.push (L := L) (he.later hA) (by omega) (by omega) (fun e => n1 e.symm) n2 (by simpa using own5) hg5 hat5' hlt5
  have cod2 := ((Own.of h1.cod).grown_ne hg5 (fun b hb e => by cases e; cases hb; exact n1 rfl)).row
  have q1 : w5.cell? ⟨q, 1, none⟩ = some (.slice (some ⟨gc, 0, none⟩) E.length cc) := cell_ne hg5 (by omega) n2 h1.c1
  have q0 : w5.cell? ⟨q, 0, none⟩ = some (.slice (some ⟨g, 0, none⟩) E.length c) := cell_ne hg5 (by omega) n2 h1.c0
  have f0 : w5.frozen? ⟨q, 0, none⟩ = false := frozen_ne hg5 (by omega) n2 h1.f0
  have f1 : w5.frozen? ⟨q, 1, none⟩ = false := frozen_ne hg5 (by omega) n2 h1.f1
  have hs1 := grown_setCell w5 ⟨q, 0, none⟩ (.slice (some ⟨g5, 0, none⟩) (E.length + 1) c5)
  have z2 : (w5.setCell ⟨q, 0, none⟩ (.slice (some ⟨g5, 0, none⟩) (E.length + 1) c5)).heap.size = w5.heap.size := by simp
  have R3 := R2.grown hs1 (.inr rfl) (fun e => r2b e.symm)
  have hA2 : Below (w5.setCell ⟨q, 0, none⟩ (.slice (some ⟨g5, 0, none⟩) (E.length + 1) c5)).heap.size (w5.setCell ⟨q, 0, none⟩ (.slice (some ⟨g5, 0, none⟩) (E.length + 1) c5)) ((w5.setCell ⟨q, 0, none⟩ (.slice (some ⟨g5, 0, none⟩) (E.length + 1) c5)).alloc o2) := (Below.refl _ _).alloc (Nat.le_refl _) o2
  have R4 := R3.later hA2
  have z3 : ((w5.setCell ⟨q, 0, none⟩ (.slice (some ⟨g5, 0, none⟩) (E.length + 1) c5)).alloc o2).heap.size = w5.heap.size + 1 := by simp
  have z4 := hg6.size
  have hat6' : gc = gc6 ∨ ((w5.setCell ⟨q, 0, none⟩ (.slice (some ⟨g5, 0, none⟩) (E.length + 1) c5)).alloc o2).heap.size ≤ gc6 := by
    rcases hat6 with h | h
    · exact .inl h
    · exact .inr (by omega)
  have R5 := R4.moveX hg6 (x' := gc6) hat6' (fun e => r2a e.symm)
  have hs2 := grown_setCell w6 ⟨q, 1, none⟩ (.slice (some ⟨gc6, 0, none⟩) (E.length + 1) cc6)
  have R6 := R5.grown hs2 (.inr rfl) (fun e => r2b e.symm)
  have p0 : ((w5.setCell ⟨q, 0, none⟩ (.slice (some ⟨g5, 0, none⟩) (E.length + 1) c5)).alloc o2).cell? ⟨q, 0, none⟩ = some (.slice (some ⟨g5, 0, none⟩) (E.length + 1) c5) := by
    rw [World.cell?_alloc_lt _ _ _ (by show q < _; rw [z2]; omega)]; exact World.cell?_setCell_same' _ _ _ (by rw [q0]; rfl)
  have p1 : ((w5.setCell ⟨q, 0, none⟩ (.slice (some ⟨g5, 0, none⟩) (E.length + 1) c5)).alloc o2).cell? ⟨q, 1, none⟩ = some (.slice (some ⟨gc, 0, none⟩) E.length cc) := by
    rw [World.cell?_alloc_lt _ _ _ (by show q < _; rw [z2]; omega), World.cell?_setCell_other _ _ _ _ (by simp)]; exact q1
  have pf : ∀ o, ((w5.setCell ⟨q, 0, none⟩ (.slice (some ⟨g5, 0, none⟩) (E.length + 1) c5)).alloc o2).frozen? ⟨q, o, none⟩ = w5.frozen? ⟨q, o, none⟩ := fun o => by
    rw [World.frozen?_alloc_old _ _ _ (by show q ≠ _; rw [z2]; omega)]; simp
  have s0 := cell_ne hg6 (by omega) n3 p0
  have s1 := cell_ne hg6 (by omega) n3 p1
  have t0 := frozen_ne hg6 (by omega) n3 ((pf 0).trans f0)
  have t1 := frozen_ne hg6 (by omega) n3 ((pf 1).trans f1)
  have hbel : Below W0.heap.size W0 (w6.setCell ⟨q, 1, none⟩ (.slice (some ⟨gc6, 0, none⟩) (E.length + 1) cc6)) := by
    have b1 := (h.bel.alloc h.bel.size o1).grown hg5 (by have := h.bel.size; omega) (fun b hb => by cases hb; exact own_block_lo h.row.row rfl)
    have b2 := Below.alloc (Below.setCell b1 (p := ⟨q, 0, none⟩) lq (.slice (some ⟨g5, 0, none⟩) (E.length + 1) c5)) (by have := h.bel.size; rw [z2]; omega) o2
    exact Below.setCell (b2.grown hg6 (by have := h.bel.size; omega) (fun b hb => by cases hb; exact own_block_lo h.cod rfl)) (p := ⟨q, 1, none⟩) lq _
  have e1 : lisE (E ++ [((L, O') : En)]) = lisE E ++ [L] := by simp [lisE]
  have e2 : codesE m (E ++ [((L, O') : En)]) = codesE m E ++ [((cdF m (hasI L) : Nat) : Int)] := by simp [codesE]
  refine ⟨⟨by rw [e1]; exact R6, ?_, ?_, ?_, ?_, ?_, ?_, by omega, ?_, lq, by simp; omega, by simpa using hlt6, hbel⟩, fun u M hu => ?_⟩
  · rw [e2, ints_snoc, List.length_append]
    exact ((Own.of own6).grown_ne hs2 (fun b hb e => by cases e; cases hb; rcases hat6 with h | h <;> omega)).row
  · rw [World.cell?_setCell_other _ _ _ _ (by simp), s0]; simp
  · rw [List.length_append]; exact World.cell?_setCell_same' _ _ _ (by rw [s1]; rfl)
  · simpa using t0
  · simpa using t1
  · rcases hat6 with h | h <;> omega
  · rcases hat6 with h | h <;> omega
  · have u2 := (hu.later hA).move hg5 (g' := g5) hat5'
    have u3 := (u2.grown hs1 (.inr (.inr rfl))).later hA2
    have u4 := u3.moveX hg6 (x' := gc6) hat6'
    exact u4.grown hs2 (.inr (.inr rfl))
end Go.KD
namespace Go.Proofs.Ytbaahghfjmkeoaa
open Go.RowKit Go.KD
attribute [local go_sem] later_cell later_frozen
set_option maxRecDepth 100000 in
set_option maxHeartbeats 16000000 in
theorem l7Search_c (v : Value) (m : Mz) (aB : Option Addr) (cB nB : Nat) (L : List Int) (O : Nat) (w : World) (hnB : nB = L.length) (hm : MzAt w v m) (hg : goodB m = true) (hL : IC w aB L) (hOp : Opn m L O) : Calls Try.prog 81 #[v, .slice aB nB cB] w fun e w' =>
    ∃ g c gc cc vs, e = .returned (.agg #[.slice (some ⟨g, 0, none⟩) (srF m [(L, O)]).length c, .slice (some ⟨gc, 0, none⟩) (srF m [(L, O)]).length cc]) ∧ (∃ lo x y, RwS false w' lo 23 3 g c x y vs (lisE (srF m [(L, O)]))) ∧ IC w' (some ⟨gc, 0, none⟩) (codesE m (srF m [(L, O)])) ∧ Below w.heap.size w w' := by
  subst hnB
  have hM := hm
  obtain ⟨⟨ad, cd, ak, ck, rfl, hd, hk'⟩, nd, nk⟩ := hM
  obtain ⟨i0, ji, jz0, jz1, jz2⟩ := info_parts infoI
  obtain ⟨s0, si, sz0, sz1, sz2⟩ := info_parts infoS
  have OK := Lib.hid (good_ok hg)
  have HGD := Lib.hid hg
  have hng : m.doors.length ≤ 30 := OK.out.nd
  have HL10 : Hid ((locksI m).length ≤ 10) := by simp only [goodB, Bool.and_eq_true, decide_eq_true_eq] at hg; exact hg.2
  have HLL := Lib.hid (opn_len OK.out hOp)
  have HOP := Lib.hid hOp
  obtain ⟨E0, hE0⟩ : ∃ E0 : List En, E0 = [(L, O)] := ⟨_, rfl⟩
  have HSO : Hid (∀ i, SrOk m (srE m E0 i)) := by rw [hE0]; exact srE_ok (sr_one m hOp)
  have HE0 := Lib.hid hE0
  rw [← hE0]
  have HLC : Hid (cdF m (hasI L) = cdK (locksI m) (hasI L) (locksI m).length) := rfl
  clear hg hOp hE0
  go_enter Try.func81, Try.ntmps81
  go_wp2_with fail
  refine (l7Locks_c _ m _ (hm.later (by (repeat (first | exact Below.refl _ _ | apply Below.drew | apply below_drewN | (refine Below.setCell ?_ (by first | omega | (simp; done) | (simp; omega) | (dsimp only; omega)) _) | (refine Below.alloc ?_ (by first | omega | (simp; done) | (simp; omega) | (dsimp only; omega)) _)))))).mono ?_
  rintro e w3 ⟨u5, rfl, ho5, hb5⟩
  obtain ⟨a5, c5, rfl⟩ := own_slice ho5
  have HI5 : Hid (IC w3 a5 (locksI m)) := ic_of (Own.of ho5)
  have HB3 : Hid (Below w.heap.size w w3) := Below.trans (by (repeat (first | exact Below.refl _ _ | apply Below.drew | apply below_drewN | (refine Below.setCell ?_ (by first | omega | (simp; done) | (simp; omega) | (dsimp only; omega)) _) | (refine Below.alloc ?_ (by first | omega | (simp; done) | (simp; omega) | (dsimp only; omega)) _)))) (hb5.mono (by simp; omega))
  have bx0 : w3.cell? ⟨w.heap.size, 0, none⟩ = some (.int .i64 m.size) := (hb5.cell (p := ⟨w.heap.size, 0, none⟩) (by simp; omega)).trans (by simp [go_sem])
  have bx1 : w3.cell? ⟨w.heap.size, 1, none⟩ = some (.slice ad m.doors.length cd) := (hb5.cell (p := ⟨w.heap.size, 1, none⟩) (by simp; omega)).trans (by simp [go_sem])
  have bx2 : w3.cell? ⟨w.heap.size, 2, none⟩ = some (.slice ak m.keys.length ck) := (hb5.cell (p := ⟨w.heap.size, 2, none⟩) (by simp; omega)).trans (by simp [go_sem])
  have by0 : w3.cell? ⟨w.heap.size + 1, 0, none⟩ = some (.slice none 0 0) := (hb5.cell (p := ⟨w.heap.size + 1, 0, none⟩) (by simp)).trans (by simp [go_sem])
  have by1 : w3.cell? ⟨w.heap.size + 1, 1, none⟩ = some (.slice none 0 0) := (hb5.cell (p := ⟨w.heap.size + 1, 1, none⟩) (by simp)).trans (by simp [go_sem])
  have bz0 : w3.frozen? ⟨w.heap.size + 1, 0, none⟩ = false := (hb5.frozen (p := ⟨w.heap.size + 1, 0, none⟩) (by simp)).trans (by simp [go_sem])
  have bz1 : w3.frozen? ⟨w.heap.size + 1, 1, none⟩ = false := (hb5.frozen (p := ⟨w.heap.size + 1, 1, none⟩) (by simp)).trans (by simp [go_sem])
  have hz3 : w.heap.size + 2 ≤ w3.heap.size := by have := hb5.size; simp at this; omega
  have HBX : Hid (∀ W, Below w3.heap.size w3 W → W.cell? ⟨w.heap.size, 0, none⟩ = some (.int .i64 m.size) ∧ W.cell? ⟨w.heap.size, 1, none⟩ = some (.slice ad m.doors.length cd) ∧ W.cell? ⟨w.heap.size, 2, none⟩ = some (.slice ak m.keys.length ck)) := fun W hW => ⟨(hW.cell (p := ⟨w.heap.size, 0, none⟩) (by show w.heap.size < _; omega)).trans bx0, (hW.cell (p := ⟨w.heap.size, 1, none⟩) (by show w.heap.size < _; omega)).trans bx1, (hW.cell (p := ⟨w.heap.size, 2, none⟩) (by show w.heap.size < _; omega)).trans bx2⟩
  have HBY : Hid (∀ W, Below w3.heap.size w3 W → W.cell? ⟨w.heap.size + 1, 0, none⟩ = some (.slice none 0 0) ∧ W.cell? ⟨w.heap.size + 1, 1, none⟩ = some (.slice none 0 0) ∧ W.frozen? ⟨w.heap.size + 1, 0, none⟩ = false ∧ W.frozen? ⟨w.heap.size + 1, 1, none⟩ = false) := fun W hW => ⟨(hW.cell (p := ⟨w.heap.size + 1, 0, none⟩) (by show w.heap.size + 1 < _; omega)).trans by0, (hW.cell (p := ⟨w.heap.size + 1, 1, none⟩) (by show w.heap.size + 1 < _; omega)).trans by1, (hW.frozen (p := ⟨w.heap.size + 1, 0, none⟩) (by show w.heap.size + 1 < _; omega)).trans bz0, (hW.frozen (p := ⟨w.heap.size + 1, 1, none⟩) (by show w.heap.size + 1 < _; omega)).trans bz1⟩
  clear ho5 hb5 bx0 bx1 bx2 by0 by1 bz0 bz1
  go_wp2_with fail
  refine (l7Code_c _ _ _ (locksI m) _ _ _ L _ rfl rfl (HI5.out.later (by (repeat (first | exact Below.refl _ _ | apply Below.drew | apply below_drewN | (refine Below.setCell ?_ (by first | omega | (simp; done) | (simp; omega) | (dsimp only; omega)) _) | (refine Below.alloc ?_ (by first | omega | (simp; done) | (simp; omega) | (dsimp only; omega)) _))))) (hL.later (HB3.out.trans (Below.alloc (Below.refl _ _) (by omega) _))) HL10.out (by have := HLL.out; omega)).mono ?_
  rintro e w4 ⟨rfl, rfl⟩
  go_wp2_with fail
  have HST := Lib.hid (srst_start (tS := 23) (tI := 3) (t59 := 75) (c := cB) (m := m) (O := O) (hL.later HB3.out))
  rw [← HE0.out] at HST
  go_loopw [7] (fun i wr => ∃ (k g c gc cc : Nat) (vs : List Value), i = .int .i64 k ∧ k ≤ (srE m E0 k).length ∧ k ≤ 1024 ∧ Hid (SrSt wr w3 23 3 (w3.heap.size + 1 + 1) g c gc cc vs m (srE m E0 k))) (fun i _ => 1024 - (intOf i).toNat)
  case atStart => exact ⟨0, _, _, _, _, _, rfl, Nat.zero_le _, by omega, HST⟩
  case round =>
    clear HST
    obtain ⟨wo, rfl⟩ : ∃ wo : World, wo = wr := ⟨_, rfl⟩
    obtain ⟨k, g, c, gc, cc, vs, rfl, hk, hk2, HS⟩ := hrel
    obtain ⟨E, hE⟩ : ∃ E, E = srE m E0 k := ⟨_, rfl⟩
    rw [← hE] at hk HS
    have HOE : Hid (SrOk m E) := by rw [hE]; exact HSO.out k
    have hle : E.length ≤ 1024 := HOE.out.le HGD.out
    have HE := Lib.hid hE
    clear hE
    have c0 := HS.out.c0
    have hqz := HS.out.lt
    have HBO : Hid (Below w.heap.size w wo) := HB3.out.trans (HS.out.bel.mono (by omega))
    have HBW := Lib.hid HS.out.bel
    by_cases hlt : k < E.length
    · have hkI : (k : Int) < (E.length : Int) := by omega
      have HNX : Hid (srE m E0 (k + 1) = expE m E k) := by show _ = _; rw [srE_next (by rw [← HE.out]; exact hlt), ← HE.out]
      obtain ⟨Lk, hLk⟩ : ∃ Lk, Lk = (E[k]!).1 := ⟨_, rfl⟩
      obtain ⟨Ok, hOk⟩ : ∃ Ok, Ok = (E[k]!).2 := ⟨_, rfl⟩
      have HOPk : Hid (Opn m Lk Ok) := by
        show Opn m Lk Ok
        rw [hLk, hOk]
        exact HOE.out.all E[k]! (by rw [getElem!_pos E k hlt]; exact List.getElem_mem hlt)
      have HLK := Lib.hid hLk
      have HOK2 := Lib.hid hOk
      obtain ⟨nxt, hnxt⟩ : ∃ nxt, nxt = nextL m Ok Lk := ⟨_, rfl⟩
      have HNXT := Lib.hid hnxt
      have hnl : nxt.length ≤ 30 := by rw [hnxt]; exact Nat.le_trans (nextL_len m Ok Lk) hng
      have hLk30 := opn_len OK.out HOPk.out
      have he := HS.out.row.each k (by simpa using hlt)
      rw [lisE_at hlt, ← hLk] at he
      obtain ⟨aK, cK, hvk, hik⟩ := he.ic
      have ek := HS.out.row.cell (i := k) (by simpa using hlt)
      rw [hvk] at ek
      have hgz := HS.out.row.gs
      have HIK := Lib.hid hik
      obtain ⟨q0, q1, q2⟩ := HBX.out wo HBW.out
      have HS2 : Hid (∀ W, Below wo.heap.size wo W → W.cell? ⟨w.heap.size, 0, none⟩ = some (.int .i64 m.size) ∧ W.cell? ⟨w.heap.size, 1, none⟩ = some (.slice ad m.doors.length cd) ∧ W.cell? ⟨w.heap.size, 2, none⟩ = some (.slice ak m.keys.length ck) ∧ W.cell? ⟨w3.heap.size + 1 + 1, 0, none⟩ = some (.slice (some ⟨g, 0, none⟩) E.length c) ∧ W.cell? ⟨g, k, none⟩ = some (.slice aK Lk.length cK)) := fun W hW => ⟨(HBX.out W (HBW.out.trans (hW.mono HBW.out.size))).1, (HBX.out W (HBW.out.trans (hW.mono HBW.out.size))).2.1, (HBX.out W (HBW.out.trans (hW.mono HBW.out.size))).2.2, (hW.cell (p := ⟨w3.heap.size + 1 + 1, 0, none⟩) hqz).trans c0, (hW.cell (p := ⟨g, k, none⟩) hgz).trans ek⟩
      clear hLk hOk hnxt he hvk hik
      go_wp2
      go_region_held3 (fun W => W.cell? ⟨w.heap.size, 0, none⟩ = some (.int .i64 m.size) ∧ W.cell? ⟨w.heap.size, 1, none⟩ = some (.slice ad m.doors.length cd) ∧ W.cell? ⟨w.heap.size, 2, none⟩ = some (.slice ak m.keys.length ck) ∧ W.cell? ⟨w3.heap.size + 1 + 1, 0, none⟩ = some (.slice (some ⟨g, 0, none⟩) E.length c) ∧ W.cell? ⟨g, k, none⟩ = some (.slice aK Lk.length cK))
        (exact HS2.out _ (by repeat (first | exact Below.refl _ _ | exact HB8.out | apply Below.drew | apply below_drewN | (refine Below.setCell ?_ (by first | omega | (simp; done) | (simp; omega) | (dsimp only; omega)) _) | (refine Below.alloc ?_ (by first | omega | (simp; done) | (simp; omega) | (dsimp only; omega)) _))))
        ((go_at_call 56; refine (l7NextN_c _ m Ok _ _ _ Lk _ rfl ((hm.later HBO.out).later (by repeat (first | exact Below.refl _ _ | apply Below.drew | apply below_drewN | (refine Below.setCell ?_ (by first | omega | (simp; done) | (simp; omega) | (dsimp only; omega)) _) | (refine Below.alloc ?_ (by first | omega | (simp; done) | (simp; omega) | (dsimp only; omega)) _)))) OK.out (HIK.out.later (by repeat (first | exact Below.refl _ _ | apply Below.drew | apply below_drewN | (refine Below.setCell ?_ (by first | omega | (simp; done) | (simp; omega) | (dsimp only; omega)) _) | (refine Below.alloc ?_ (by first | omega | (simp; done) | (simp; omega) | (dsimp only; omega)) _)))) (by omega) (opn_ok OK.out HOPk.out)).mono ?_; rintro e w8 ⟨u8, rfl, ho8, hb8⟩; have HB8 : Hid (Below wo.heap.size wo w8) := (Below.refl _ _).drew.trans hb8; have HO8 := Lib.hid ho8; clear ho8 hb8))
      rw [← HNXT.out] at HO8
      obtain ⟨a8, c8, rfl⟩ := own_slice HO8.out
      have HS8 := Lib.hid (HS.out.later HB8.out)
      have HN8 : Hid (RwE false w8 w3.heap.size 3 g gc (w3.heap.size + 1 + 1) (.slice a8 nxt.length c8) nxt) := by
        refine ⟨⟨a8, c8, rfl, ic_of (Own.of HO8.out)⟩, fun b hb _ => ?_, fun h => by cases h⟩
        have h1 := own_block_lo HO8.out hb
        have h2 := (Own.of HO8.out).top b hb
        have h3 := HS.out.gl
        have h4 : wo.drew.heap.size = wo.heap.size := rfl
        omega
      clear HS2 HS q0 q1 q2 c0 ek HIK HO8 hqz
      go_wp2
      go_loopw [9] (fun jv wr => ∃ (j g c gc cc : Nat) (vs : List Value), jv = .int .i64 j ∧ j ≤ nxt.length ∧ Hid (SrSt wr w3 23 3 (w3.heap.size + 1 + 1) g c gc cc vs m (expJ m E k j)) ∧ Hid (RwE false wr w3.heap.size 3 g gc (w3.heap.size + 1 + 1) (.slice a8 nxt.length c8) nxt)) (fun jv _ => nxt.length - (intOf jv).toNat)
      case atStart => exact ⟨0, g, c, gc, cc, vs, rfl, Nat.zero_le _, HS8, HN8⟩
      case round =>
        clear HS8 HN8 HB8 HBO HBW hgz
        obtain ⟨wi, rfl⟩ : ∃ wi : World, wi = wr := ⟨_, rfl⟩
        obtain ⟨j, g, c, gc, cc, vs, rfl, hj, HS, HN⟩ := hrel
        have hjE : j ≤ (nextL m (E[k]!).2 (E[k]!).1).length := by rw [← HOK2.out, ← HLK.out, ← HNXT.out]; exact hj
        have HOJ : Hid (SrOk m (expJ m E k j)) := expJ_ok HOE.out hlt j hjE
        obtain ⟨F, hF⟩ : ∃ F, F = expJ m E k j := ⟨_, rfl⟩
        have hpre : E <+: F := by rw [hF]; exact expJ_pre m E k j
        have hFk : F[k]! = E[k]! := pre_at hpre hlt
        have hFl : k < F.length := Nat.lt_of_lt_of_le hlt hpre.length_le
        rw [← hF] at HS HOJ
        have HF := Lib.hid hF
        have hFle : F.length ≤ 1024 := HOJ.out.le HGD.out
        have hqz := HS.out.lt
        have hgz := HS.out.row.gs
        have c0 := HS.out.c0
        have c1 := HS.out.c1
        have f0 := HS.out.f0
        have f1 := HS.out.f1
        have HBW := Lib.hid HS.out.bel
        clear hF
        by_cases hlt2 : j < nxt.length
        · have hjI : (j : Int) < (nxt.length : Int) := by omega
          obtain ⟨a8', c8', h8, hi8⟩ := HN.out.ic
          cases h8
          obtain ⟨b8, off8, xI, ha8, HX, hbs8, e8⟩ := hi8.at j hlt2
          subst ha8
          have hh : hasI (nextL m Ok Lk) xI = true := by rw [hasI_iff, ← HNXT.out, ← HX.out, getElem!_pos nxt j hlt2]; exact List.getElem_mem hlt2
          obtain ⟨x, rfl, hxd⟩ := next_nat hh
          have HOPn : Hid (Opn m (Lk ++ [(x : Int)]) (setN Ok x)) := opn_snoc HOPk.out hh
          have HJS : Hid (expJ m E k (j + 1) = addE Lk Ok F x) := by
            show _ = _
            rw [expJ_step m E k (by rw [← HOK2.out, ← HLK.out, ← HNXT.out]; exact hlt2), ← HF.out, ← HLK.out, ← HOK2.out, ← HNXT.out, HX.out]
          have he := HS.out.row.each k (by simpa using hFl)
          rw [lisE_at hFl, hFk, ← HLK.out] at he
          obtain ⟨aK, cK, hvk, hik⟩ := he.ic
          have ek := HS.out.row.cell (i := k) (by simpa using hFl)
          rw [hvk] at ek
          have HIK := Lib.hid hik
          have hkF : (k : Int) < (F.length : Int) := by omega
          have HHS : Hid (hasI (codesE m F) ((cdF m (hasI (Lk ++ [(x : Int)])) : Nat) : Int) = F.any (fun e => e.2 == setN Ok x)) := codes_has OK.out HOJ.out.all HOPn.out
          have hLn : (Lk ++ [(x : Int)]).length = Lk.length + 1 := by simp
          have HLN := Lib.hid hLn
          have HS2 : Hid (∀ W, Below wi.heap.size wi W → W.cell? ⟨w3.heap.size + 1 + 1, 0, none⟩ = some (.slice (some ⟨g, 0, none⟩) F.length c) ∧ W.cell? ⟨g, k, none⟩ = some (.slice aK Lk.length cK) ∧ W.cell? ⟨b8, off8 + j, none⟩ = some (.int .i64 x)) := fun W hW => ⟨(hW.cell (p := ⟨w3.heap.size + 1 + 1, 0, none⟩) hqz).trans c0, (hW.cell (p := ⟨g, k, none⟩) hgz).trans ek, (hW.cell (p := ⟨b8, off8 + j, none⟩) hbs8).trans e8⟩
          clear hh he hvk hik hi8 hpre hFk hLn
          go_upto_region 10 with fail
          go_cut [10] (fun s10 wx => ∃ gn cn : Nat, s10 = .slice (some ⟨gn, 0, none⟩) (Lk.length + 1) cn ∧ Hid (wx.ownsRow wi.heap.size 3 1 (.slice (some ⟨gn, 0, none⟩) (Lk.length + 1) cn) (Lk.length + 1) (ints (Lk ++ [(x : Int)])) ∧ Below wi.heap.size wi wx))
          case first =>
            go_region_held3 (fun W => W.cell? ⟨w3.heap.size + 1 + 1, 0, none⟩ = some (.slice (some ⟨g, 0, none⟩) F.length c) ∧ W.cell? ⟨g, k, none⟩ = some (.slice aK Lk.length cK) ∧ W.cell? ⟨b8, off8 + j, none⟩ = some (.int .i64 x))
              (exact HS2.out _ (by repeat (first | exact Below.refl _ _ | exact HB5.out | exact HB4.out | apply Below.drew | apply below_drewN | (refine Below.setCell ?_ (by first | omega | (simp; done) | (simp; omega) | (dsimp only; omega)) _) | (refine Below.alloc ?_ (by first | omega | (simp; done) | (simp; omega) | (dsimp only; omega)) _))))
              (first
                | (go_at_call 58; refine (l1Own_c _ _ _ Lk _ rfl (HIK.out.later (by repeat (first | exact Below.refl _ _ | apply Below.drew | apply below_drewN | (refine Below.setCell ?_ (by first | omega | (simp; done) | (simp; omega) | (dsimp only; omega)) _) | (refine Below.alloc ?_ (by first | omega | (simp; done) | (simp; omega) | (dsimp only; omega)) _)))) (by omega)).mono ?_; rintro e w4 ⟨v4, rfl, ho4, hb4⟩; obtain ⟨a4, c4, rfl⟩ := own_slice ho4; have HB4 : Hid (Below wi.heap.size wi w4) := Below.trans (by repeat (first | exact Below.refl _ _ | apply Below.drew | apply below_drewN | (refine Below.setCell ?_ (by first | omega | (simp; done) | (simp; omega) | (dsimp only; omega)) _) | (refine Below.alloc ?_ (by first | omega | (simp; done) | (simp; omega) | (dsimp only; omega)) _))) (hb4.mono (by first | exact Nat.le_refl _ | (simp; done) | (simp; omega))); have HO4 : Hid (w4.ownsRow wi.heap.size 3 1 (.slice a4 Lk.length c4) Lk.length (ints Lk)) := (Own.mono (Own.of ho4) (by first | exact Nat.le_refl _ | (simp; done) | (simp; omega)) (Nat.le_refl _)).row; obtain ⟨hc4, hf4, hz4⟩ := bcell3 hb4; (try simp only [World.size_alloc, World.size_drew] at hz4 hc4 hf4); have hz4' : wi.heap.size ≤ w4.heap.size := HB4.out.size; clear ho4 hb4)
                | (refine step_append_below _ wi wi.heap.size (by repeat (first | exact Below.refl _ _ | exact HB4.out | apply Below.drew | apply below_drewN | (refine Below.setCell ?_ (by first | omega | (simp; done) | (simp; omega) | (dsimp only; omega)) _) | (refine Below.alloc ?_ (by first | omega | (simp; done) | (simp; omega) | (dsimp only; omega)) _))) (by rfl) _ _ 23 (by rfl) 3 i0 (.int .i64 0) 1 8 Try.underlying23 ji jz0 jz1 jz2 rfl (by decide) (.slice a4 Lk.length c4) Lk.length (ints Lk) (by rfl) (HO4.out.alloc _) ⟨w4.heap.size, 0, none⟩ 1 1 [.int .i64 x] (by rfl) rfl (news_one (by simp [go_sem])) (by simp [Value.oneCell']) (by unfold maxLen; omega) (by omega) (by first | omega | (simp; omega)) ?_; intro v5 w5 hown5 hg5 hB5; have HB5 := Lib.hid hB5; have HO5 := Lib.hid hown5; clear hown5 hg5 hB5)
                | (refine step_append_below _ wi wi.heap.size (by repeat (first | exact Below.refl _ _ | exact HB4.out | apply Below.drew | apply below_drewN | (refine Below.setCell ?_ (by first | omega | (simp; done) | (simp; omega) | (dsimp only; omega)) _) | (refine Below.alloc ?_ (by first | omega | (simp; done) | (simp; omega) | (dsimp only; omega)) _))) (by rfl) _ _ 23 (by rfl) 3 i0 (.int .i64 0) 1 8 Try.underlying23 ji jz0 jz1 jz2 rfl (by decide) (.slice a4 Lk.length c4) Lk.length (ints Lk) (by rfl) HO4.out ⟨wi.heap.size, 0, none⟩ 1 1 [.int .i64 x] (by rfl) rfl (news_one (by rw [hc4 _ _ (by omega)]; simp [go_sem])) (by simp [Value.oneCell']) (by unfold maxLen; omega) (by omega) (by first | omega | (simp; omega)) ?_; intro v5 w5 hown5 hg5 hB5; have HB5 := Lib.hid hB5; have HO5 := Lib.hid hown5; clear hown5 hg5 hB5))
            all_goals
              obtain ⟨gn, cn, rfl, -, -⟩ := own_someD HO5.out (by omega)
              go_wp2_with fail
              go_meet
              case rel => exact ⟨gn, cn, rfl, (⟨by rw [ints_snoc]; exact HO5.out, HB5.out⟩ : _ ∧ _)⟩
          case rest =>
            obtain ⟨gn, cn, rfl, HC⟩ := hcut
            have HOC := Lib.hid HC.out.1
            have HBC := Lib.hid HC.out.2
            have hzc := HC.out.2.size
            have HSC := Lib.hid (HS.out.later HBC.out)
            have HNC := Lib.hid (HN.out.later HBC.out)
            have hgn1 := own_block_lo HOC.out (g := gn) rfl
            have hgn2 := (Own.of HOC.out).top gn rfl
            have HBWC := Lib.hid HSC.out.bel
            have HEC : Hid (RwE false wc w3.heap.size 3 g gc (w3.heap.size + 1 + 1) (.slice (some ⟨gn, 0, none⟩) (Lk.length + 1) cn) (Lk ++ [(x : Int)])) := by
              refine ⟨⟨_, cn, by rw [HLN.out], ic_of' (Own.of HOC.out) HLN.out.symm⟩, fun b hb _ => ?_, fun h => by cases h⟩
              have : gn = b := by simpa [Value.ownBlock] using hb
              have h3 := HS.out.gl
              omega
            clear HC c0 c1 f0 f1 e8 ek
            go_wp2_with fail
            refine (l7Code_c _ _ _ (locksI m) _ _ _ (Lk ++ [(x : Int)]) _ rfl HLN.out.symm (HI5.out.later HBWC.out) (ic_of' (Own.of HOC.out) HLN.out.symm) HL10.out (by rw [HLN.out]; omega)).mono ?_
            rintro e w6 ⟨rfl, rfl⟩
            have hcdv : (cdK (locksI m) (hasI (Lk ++ [(x : Int)])) (locksI m).length : Nat) = cdF m (hasI (Lk ++ [(x : Int)])) := rfl
            rw [hcdv]
            obtain ⟨cd0, hcd⟩ : ∃ cd0, cd0 = cdF m (hasI (Lk ++ [(x : Int)])) := ⟨_, rfl⟩
            rw [← hcd] at HHS ⊢
            have HCD := Lib.hid hcd
            clear hcd hcdv
            have c0 := HSC.out.c0
            have c1 := HSC.out.c1
            have f0 := HSC.out.f0
            have f1 := HSC.out.f1
            go_wp2_with fail
            refine (l1Has_c _ _ _ (codesE m F) _ _ (by rw [codesE_len]) (ic_of' (Own.of HSC.out.cod) (by rw [codesE_len])) (by omega)).mono ?_
            rintro e w6 ⟨rfl, rfl⟩
            rw [HHS.out]
            cases hany : F.any (fun e => e.2 == setN Ok (x : Int))
            case true =>
              have HJN : Hid (expJ m E k (j + 1) = F) := by show _ = _; rw [HJS.out]; exact addE_no hany
              clear hany
              go_wp2
              go_roundw
              case rel => exact ⟨j + 1, g, c, gc, cc, vs, by go_num, by omega, by rw [HJN.out]; exact HSC, HNC⟩
              case measure => simp [intOf]; omega
            case false =>
              have HJN : Hid (expJ m E k (j + 1) = F ++ [(Lk ++ [(x : Int)], setN Ok (x : Int))]) := by show _ = _; rw [HJS.out]; exact addE_yes hany
              have hqc := HSC.out.lt
              have n1 := HSC.out.n1
              have n2 := HSC.out.n2
              have n3 := HSC.out.n3
              have HROW : Hid (wc.ownsRow w3.heap.size 23 1 (.slice (some ⟨g, 0, none⟩) F.length c) F.length vs) := by have := HSC.out.row.row; rw [lisE_len] at this; exact this
              have hz3c := HSC.out.bel.size
              clear hany
              go_upto_region 14 with (at_builtin; refine wpList_append_lies _ rfl _ _ 73 rfl w3.heap.size 23 s0 (.slice none 0 0) 1 24 Try.underlying73 si sz0 sz1 sz2 rfl (by decide) (.slice (some ⟨g, 0, none⟩) F.length c) _ _ rfl (HROW.out.alloc _) ⟨wc.heap.size, 0, none⟩ 1 1 [.slice (some ⟨gn, 0, none⟩) (Lk.length + 1) cn] rfl rfl ?_ ?_ (by omega) ?_ ?_ ?_ (wc.heap.size + 1) ?_ ?_; (exact cell_one_new _ _ _); (simp [Value.oneCell']); (unfold maxLen; omega); omega; (simp; omega); (simp); intro g5 c5 w5 hown5 hgrow5 hat5 hlt5; have hat5' : g = g5 ∨ g5 = wc.heap.size + 1 := (by rcases hat5 with h | h; exact .inl (by simpa [Value.ownBlock] using h); exact .inr h); have d0 : w5.cell? ⟨w3.heap.size + 1 + 1, 0, none⟩ = some (.slice (some ⟨g, 0, none⟩) F.length c) := cell_ne (z := g) hgrow5 (by simp; omega) n2 (by rw [World.cell?_alloc_lt _ _ _ (by show w3.heap.size + 1 + 1 < _; omega)]; exact c0); have d1 : w5.cell? ⟨w3.heap.size + 1 + 1, 1, none⟩ = some (.slice (some ⟨gc, 0, none⟩) F.length cc) := cell_ne (z := g) hgrow5 (by simp; omega) n2 (by rw [World.cell?_alloc_lt _ _ _ (by show w3.heap.size + 1 + 1 < _; omega)]; exact c1); have fr0 : w5.frozen? ⟨w3.heap.size + 1 + 1, 0, none⟩ = false := frozen_ne (z := g) hgrow5 (by simp; omega) n2 (by rw [World.frozen?_alloc_old _ _ _ (by show w3.heap.size + 1 + 1 ≠ _; omega)]; exact f0); have fr1 : w5.frozen? ⟨w3.heap.size + 1 + 1, 1, none⟩ = false := frozen_ne (z := g) hgrow5 (by simp; omega) n2 (by rw [World.frozen?_alloc_old _ _ _ (by show w3.heap.size + 1 + 1 ≠ _; omega)]; exact f1); have HROW5 := Lib.hid hown5; have HG5 := Lib.hid hgrow5; clear hown5 hgrow5 hat5)
              have HCOD5 : Hid ((w5.setCell ⟨w3.heap.size + 1 + 1, 0, none⟩ (.slice (some ⟨g5, 0, none⟩) (F.length + 1) c5)).ownsRow w3.heap.size 3 1 (.slice (some ⟨gc, 0, none⟩) F.length cc) F.length (ints (codesE m F))) := by
                have h1 := (Own.of HSC.out.cod).later ((Below.refl _ _).alloc (Nat.le_refl _) (.cells #[.slice (some ⟨gn, 0, none⟩) (Lk.length + 1) cn] 23)) (Nat.le_refl _)
                have h2 := h1.grown_ne HG5.out (fun b hb e => by cases e; cases hb; exact n1 rfl)
                exact (h2.grown_ne (grown_setCell w5 ⟨w3.heap.size + 1 + 1, 0, none⟩ (.slice (some ⟨g5, 0, none⟩) (F.length + 1) c5)) (fun b hb e => by cases e; cases hb; exact n3 rfl)).row
              have hz5 : wc.heap.size + 1 ≤ w5.heap.size := by have := HG5.out.size; simpa using this
              go_wp2_with (at_builtin; refine wpList_append_lies _ rfl _ _ 23 rfl w3.heap.size 3 i0 (.int .i64 0) 1 8 Try.underlying23 ji jz0 jz1 jz2 rfl (by decide) (.slice (some ⟨gc, 0, none⟩) F.length cc) _ _ rfl (HCOD5.out.alloc _) ⟨w5.heap.size, 0, none⟩ 1 1 [.int .i64 cd0] rfl rfl ?_ ?_ (by omega) ?_ ?_ ?_ (w5.heap.size + 1) ?_ ?_; (exact news_one (by first | (simp [go_sem]; done) | exact cell_new_set _ _ _ _)); (simp [Value.oneCell']); (unfold maxLen; omega); omega; (simp; omega); (simp); intro g6 c6 w6 hown6 hgrow6 hat6 hlt6; have hat6' : gc = g6 ∨ g6 = w5.heap.size + 1 := (by rcases hat6 with h | h; exact .inl (by simpa [Value.ownBlock] using h); exact .inr h); have k1 : w6.cell? ⟨w3.heap.size + 1 + 1, 1, none⟩ = some (.slice (some ⟨gc, 0, none⟩) F.length cc) := cell_ne (z := gc) hgrow6 (by simp; omega) n3 (by rw [World.cell?_alloc_lt _ _ _ (by show w3.heap.size + 1 + 1 < (World.setCell _ _ _).heap.size; simp; omega), World.cell?_setCell_other _ _ _ _ (by simp)]; exact d1); have kf1 : w6.frozen? ⟨w3.heap.size + 1 + 1, 1, none⟩ = false := frozen_ne (z := gc) hgrow6 (by simp; omega) n3 (by rw [World.frozen?_alloc_old _ _ _ (by show w3.heap.size + 1 + 1 ≠ (World.setCell _ _ _).heap.size; simp; omega)]; simpa using fr1); have HROW6 := Lib.hid hown6; have HG6 := Lib.hid hgrow6; clear hown6 hgrow6 hat6)
              have HPU := Lib.hid (srst_push HSC.out (setN Ok (x : Int)) HEC.out _ _ HROW5.out HG5.out hat5' hlt5 (by rw [← HCD.out]; exact HROW6.out) HG6.out hat6' hlt6)
              go_roundw
              case rel => exact ⟨j + 1, g5, c5, g6, c6, vs ++ [.slice (some ⟨gn, 0, none⟩) (Lk.length + 1) cn], by go_num, by omega, by rw [HJN.out]; exact HPU.out.1, HPU.out.2 _ _ HNC.out⟩
              case measure => simp [intOf]; omega
        · obtain rfl : j = nxt.length := by omega
          have HEND : Hid (F = srE m E0 (k + 1)) := by
            show _ = _
            rw [HNX.out, HF.out]
            unfold expE
            rw [← HOK2.out, ← HLK.out, ← HNXT.out]
          go_wp2
          go_roundw
          case rel => exact ⟨k + 1, g, c, gc, cc, vs, by go_num, by rw [← HEND.out]; omega, by omega, by rw [← HEND.out]; exact HS⟩
          case measure => simp [intOf]; omega
    · obtain rfl : k = E.length := by omega
      have HEND : Hid (srF m E0 = E) := by
        show _ = _
        rw [srF_eq (i := E.length) (by omega) (by rw [← HE.out]; exact Nat.le_refl _)]
        exact HE.out.symm
      have c1 := HS.out.c1
      have HROW := Lib.hid HS.out.row
      have HIC : Hid (IC wo (some ⟨gc, 0, none⟩) (codesE m E)) := ic_of' (Own.of HS.out.cod) (by rw [codesE_len])
      obtain ⟨y0, y1, y2, y3⟩ := HBY.out wo HBW.out
      have hle1 : w.heap.size + 1 < wo.heap.size := by omega
      have HNE : Hid (g ≠ w.heap.size + 1 ∧ gc ≠ w.heap.size + 1) := by
        have h1 := own_block_lo HS.out.row.row (g := g) rfl
        have h2 := own_block_lo HS.out.cod (g := gc) rfl
        exact ⟨by omega, by omega⟩
      go_wp2
      refine bodyPost_ret (v := .agg #[.slice (some ⟨g, 0, none⟩) E.length c, .slice (some ⟨gc, 0, none⟩) E.length cc]) (by simp [results, Try.results81, go_sem, y0, y1, y2, y3]) rfl ?_
      rw [HEND.out]
      refine ⟨g, c, gc, cc, vs, rfl, ?_, ?_, ?_⟩
      · exact ⟨_, _, _, (HROW.out.setV y0 (fun e => HNE.out.1 e.symm) _).setV (p := ⟨w.heap.size + 1, 1, none⟩) (by rw [World.cell?_setCell_other _ _ _ _ (by simp)]; exact y1) (fun e => HNE.out.1 e.symm) _⟩
      · exact ic_setV (ic_setV HIC.out y0 _) (p := ⟨w.heap.size + 1, 1, none⟩) (by rw [World.cell?_setCell_other _ _ _ _ (by simp)]; exact y1) _
      · exact Below.setCell (Below.setCell HBO.out (by show w.heap.size ≤ w.heap.size + 1; omega) _) (by show w.heap.size ≤ w.heap.size + 1; omega) _
end Go.Proofs.Ytbaahghfjmkeoaa
