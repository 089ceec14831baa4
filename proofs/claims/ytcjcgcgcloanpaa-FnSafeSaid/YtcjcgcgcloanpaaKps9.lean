/- Contract of l7Search. Maps from numbers to yes or no: what the block holds, in plain words; the laws at the operations. The state of impl.first: a row of openings, a map of their sets. Contract of impl.first. -/
import Derived.Test.YtcjcgcgcloanpaaKps8
import Derived.Test.YtcjcgcgcloanpaaKps6
import Derived.Maps.OwnSet
import Derived.Maps.OwnOps
set_option linter.unusedVariables false
set_option linter.unusedSimpArgs false
namespace Go.KD
open Go.RowKit
def codesE (m : Mz) (E : List En) : List Int := E.map fun e => ((cdF m (hasI e.1) : Nat) : Int)
@[simp] theorem codesE_len (m : Mz) (E : List En) : (codesE m E).length = E.length := by simp [codesE]
def lisE (E : List En) : List (List Int) := E.map (·.1)
@[simp] theorem lisE_len (E : List En) : (lisE E).length = E.length := by simp [lisE]
theorem lisE_at {E : List En} {i : Nat} (hi : i < E.length) : (lisE E)[i]! = (E[i]!).1 := by
  rw [getElem!_pos (lisE E) i (by simpa using hi), getElem!_pos E i hi]; simp [lisE]
/-- The state of the search. -/
structure SrSt (W W0 : World) (eS eI : TypeId) (q g c gc cc : Nat) (vs : List Value) (m : Mz) (E : List En) : Prop where
  row : RwS false W W0.heap.size eS eI g c gc q vs (lisE E)
  cod : W.ownsRow W0.heap.size eI 1 (.slice (some ⟨gc, 0, none⟩) E.length cc) E.length (ints (codesE m E))
  c0 : W.cell? ⟨q, 0, none⟩ = some (.slice (some ⟨g, 0, none⟩) E.length c)
  c1 : W.cell? ⟨q, 1, none⟩ = some (.slice (some ⟨gc, 0, none⟩) E.length cc)
  f0 : W.frozen? ⟨q, 0, none⟩ = false
  f1 : W.frozen? ⟨q, 1, none⟩ = false
  n1 : gc ≠ g
  n2 : g ≠ q
  n3 : gc ≠ q
  lq : W0.heap.size ≤ q
  lt : q < W.heap.size
  gl : gc < W.heap.size
  bel : Below W0.heap.size W0 W
theorem SrSt.later {W W' W0 : World} {eS eI : TypeId} {q g c gc cc : Nat} {vs : List Value} {m : Mz} {E : List En} (h : SrSt W W0 eS eI q g c gc cc vs m E) (hb : Below W.heap.size W W') : SrSt W' W0 eS eI q g c gc cc vs m E :=
  ⟨h.row.later hb, ((Own.of h.cod).later hb (Nat.le_refl _)).row, (hb.cell (p := ⟨q, 0, none⟩) h.lt).trans h.c0, (hb.cell (p := ⟨q, 1, none⟩) h.lt).trans h.c1, (hb.frozen (p := ⟨q, 0, none⟩) h.lt).trans h.f0, (hb.frozen (p := ⟨q, 1, none⟩) h.lt).trans h.f1, h.n1, h.n2, h.n3, h.lq, Nat.lt_of_lt_of_le h.lt hb.size, Nat.lt_of_lt_of_le h.gl hb.size, h.bel.trans (hb.mono h.bel.size)⟩
theorem codes_has {m : Mz} (ok : MzOk m) {E : List En} (hE : ∀ e ∈ E, Opn m e.1 e.2) {L : List Int} {O : Nat} (h : Opn m L O) : hasI (codesE m E) ((cdF m (hasI L) : Nat) : Int) = E.any (fun e => e.2 == O) := by
  rw [Bool.eq_iff_iff, hasI_iff, List.any_eq_true]
  unfold codesE
  simp only [List.mem_map, beq_iff_eq]
  constructor
  · rintro ⟨e, he, hee⟩
    exact ⟨e, he, (cd_eq ok (hE e he) h).1 (by omega)⟩
  · rintro ⟨e, he, rfl⟩
    exact ⟨e, he, by rw [(cd_eq ok (hE e he) h).2 rfl]⟩
end Go.KD
namespace Go.KD
open Go.RowKit
theorem RwE.move {own : Bool} {W W' : World} {lo : Nat} {eI : TypeId} {g g' x y : Nat} {v : Value} {L : List Int} (h : RwE own W lo eI g x y v L) (hg : W.grownBy W' (some g)) (hat : g = g' ∨ W.heap.size ≤ g') : RwE own W' lo eI g' x y v L := by
  have h1 := h.grown hg (.inl rfl)
  refine ⟨h1.ic, fun b hb hp => ?_, h1.ow⟩
  obtain ⟨n1, n2, n3, n4⟩ := h1.ne b hb hp
  obtain ⟨m1, m2, m3, m4⟩ := h.ne b hb hp
  exact ⟨by omega, n2, n3, n4⟩
theorem RwE.moveX {own : Bool} {W W' : World} {lo : Nat} {eI : TypeId} {g x x' y : Nat} {v : Value} {L : List Int} (h : RwE own W lo eI g x y v L) (hg : W.grownBy W' (some x)) (hat : x = x' ∨ W.heap.size ≤ x') : RwE own W' lo eI g x' y v L := by
  have h1 := h.grown hg (.inr (.inl rfl))
  refine ⟨h1.ic, fun b hb hp => ?_, h1.ow⟩
  obtain ⟨n1, n2, n3, n4⟩ := h1.ne b hb hp
  obtain ⟨m1, m2, m3, m4⟩ := h.ne b hb hp
  exact ⟨n1, by omega, n3, n4⟩
theorem RwS.moveX {own : Bool} {W W' : World} {lo : Nat} {eS eI : TypeId} {g c x x' y : Nat} {vs : List Value} {Ls : List (List Int)} (h : RwS own W lo eS eI g c x y vs Ls) (hg : W.grownBy W' (some x)) (hat : x = x' ∨ W.heap.size ≤ x') (hne : x ≠ g) : RwS own W' lo eS eI g c x' y vs Ls :=
  ⟨((Own.of h.row).grown_ne hg (fun b hb e => by cases e; cases hb; exact hne rfl)).row, fun i hi => (h.each i hi).moveX hg hat, Nat.lt_of_lt_of_le h.gs hg.size⟩
theorem own_lit1 {W : World} {g lo : Nat} {e : TypeId} {v : Value} (h : W.heap[g]? = some (.cells #[v] e)) (hb : lo ≤ g) : W.ownsRow lo e 1 (.slice (some ⟨g, 0, none⟩) 1 1) 1 [v] :=
  ⟨rfl, .inr ⟨g, 1, #[v], rfl, hb, h, Nat.le_refl _, by unfold maxLen; omega, rfl, rfl⟩⟩
theorem ic_setV {w : World} {a : Option Addr} {l : List Int} {p : Addr} {x : Option Addr} {n c : Nat} (h : IC w a l) (hc : w.cell? p = some (.slice x n c)) (u : Value) : IC (w.setCell p u) a l := by
  intro k hk
  obtain ⟨b, off, ha, hbs, h0⟩ := h k hk
  refine ⟨b, off, ha, by simpa using hbs, ?_⟩
  rw [World.cell?_setCell_other _ _ _ _ (fun e => by rw [e, h0] at hc; cases hc)]
  exact h0
theorem RwS.setV {W : World} {lo : Nat} {eS eI : TypeId} {g c x y : Nat} {vs : List Value} {Ls : List (List Int)} {p : Addr} {x0 : Option Addr} {n0 c0 : Nat} (h : RwS false W lo eS eI g c x y vs Ls) (hc : W.cell? p = some (.slice x0 n0 c0)) (hne : p.block ≠ g) (u : Value) : RwS false (W.setCell p u) lo eS eI g c x y vs Ls := by
  refine ⟨((Own.of h.row).grown_ne (grown_setCell W p u) (fun b hb e => by cases e; cases hb; exact hne rfl)).row, fun i hi => ?_, by simpa using h.gs⟩
  have he := h.each i hi
  obtain ⟨a, c', hv, hi'⟩ := he.ic
  exact ⟨⟨a, c', hv, ic_setV hi' hc u⟩, fun b hb hp => by obtain ⟨h1, h2, h3, h4⟩ := he.ne b hb hp; exact ⟨h1, h2, h3, by simpa using h4⟩, fun h => by cases h⟩
theorem cell_new_set (w : World) (p : Addr) (u v : Value) {e : TypeId} : ((w.setCell p u).alloc (.cells #[v] e)).cell? ⟨w.heap.size, 0, none⟩ = some v := by
  have h := heap_alloc_new (w.setCell p u) (.cells #[v] e)
  have hz : (w.setCell p u).heap.size = w.heap.size := by simp
  rw [hz] at h
  have h' : ((w.setCell p u).alloc (.cells #[v] e)).heap[w.heap.size]? = some (.cells #[v] e) := h
  unfold World.cell?
  simp only [h']
  rfl
theorem addE_no {L : List Int} {O : Nat} {E : List En} {k : Int} (h : E.any (fun e => e.2 == setN O k) = true) : addE L O E k = E := by unfold addE; rw [h]; rfl
theorem addE_yes {L : List Int} {O : Nat} {E : List En} {k : Int} (h : E.any (fun e => e.2 == setN O k) = false) : addE L O E k = E ++ [(L ++ [k], setN O k)] := by unfold addE; rw [h]; rfl
theorem cell_ne {w w' : World} {z q o : Nat} {v : Value} (hg : w.grownBy w' (some z)) (hq : q < w.heap.size) (hne : z ≠ q) (h : w.cell? ⟨q, o, none⟩ = some v) : w'.cell? ⟨q, o, none⟩ = some v := by
  rw [← h]; exact World.cell?_of_block (hg.block q hq (fun e => hne (by cases e; rfl)))
theorem frozen_ne {w w' : World} {z q o : Nat} (hg : w.grownBy w' (some z)) (hq : q < w.heap.size) (hne : z ≠ q) (h : w.frozen? ⟨q, o, none⟩ = false) : w'.frozen? ⟨q, o, none⟩ = false := by
  rw [← h]; exact hg.frozen_far ⟨q, o, none⟩ hq (by intro e; cases e; exact hne rfl)
theorem srst_start {w3 : World} {tS tI t59 : TypeId} {a : Option Addr} {c : Nat} {m : Mz} {L : List Int} {O : Nat} (hL : IC w3 a L) : SrSt (((w3.alloc (.cells #[.slice a L.length c] tS)).alloc (.cells #[.int .i64 ((cdF m (hasI L) : Nat) : Int)] tI)).alloc (.cells #[.slice (some ⟨w3.heap.size, 0, none⟩) 1 1, .slice (some ⟨w3.heap.size + 1, 0, none⟩) 1 1] t59)) w3 tS tI (w3.heap.size + 2) w3.heap.size 1 (w3.heap.size + 1) 1 [.slice a L.length c] m [((L, O) : En)] := by
  obtain ⟨W, hW⟩ : ∃ W, W = (((w3.alloc (.cells #[.slice a L.length c] tS)).alloc (.cells #[.int .i64 ((cdF m (hasI L) : Nat) : Int)] tI)).alloc (.cells #[.slice (some ⟨w3.heap.size, 0, none⟩) 1 1, .slice (some ⟨w3.heap.size + 1, 0, none⟩) 1 1] t59)) := ⟨_, rfl⟩
  have hb : Below w3.heap.size w3 W := by rw [hW]; exact ((((Below.refl _ _).alloc (by simp) _).alloc (by simp) _).alloc (by simp; omega) _)
  have hz : W.heap.size = w3.heap.size + 3 := by rw [hW]; simp
  have h0 : W.heap[w3.heap.size]? = some (.cells #[.slice a L.length c] tS) := by
    rw [hW]
    show (Array.push (Array.push (Array.push w3.heap _) _) _)[w3.heap.size]? = _
    rw [Array.getElem?_push_lt (by simp; omega), Array.getElem_push_lt (by simp), Array.getElem_push_eq]
  have h1 : W.heap[w3.heap.size + 1]? = some (.cells #[.int .i64 ((cdF m (hasI L) : Nat) : Int)] tI) := by
    rw [hW]
    show (Array.push (Array.push (Array.push w3.heap _) _) _)[w3.heap.size + 1]? = _
    rw [Array.getElem?_push_lt (by simp), Array.getElem_push, dif_neg (by simp)]
  have h2 : W.heap[w3.heap.size + 2]? = some (.cells #[.slice (some ⟨w3.heap.size, 0, none⟩) 1 1, .slice (some ⟨w3.heap.size + 1, 0, none⟩) 1 1] t59) := by
    rw [hW]
    show (Array.push (Array.push (Array.push w3.heap _) _) _)[w3.heap.size + 2]? = _
    have : w3.heap.size + 2 = (Array.push (Array.push w3.heap (.cells #[.slice a L.length c] tS)) (.cells #[.int .i64 ((cdF m (hasI L) : Nat) : Int)] tI)).size := by simp
    rw [this, Array.getElem?_push_size]
  rw [← hW]
  refine ⟨⟨own_lit1 h0 (Nat.le_refl _), fun i hi => ?_, by omega⟩, own_lit1 h1 (by omega), by simp [World.cell?, h2], by simp [World.cell?, h2], by simp [World.frozen?, h2], by simp [World.frozen?, h2], by omega, by omega, by omega, by omega, by omega, by omega, hb⟩
  have : i = 0 := by simpa using hi
  subst this
  refine ⟨⟨a, c, rfl, hL.later hb⟩, fun b hbb hp => ?_, fun h => by cases h⟩
  have hp' : 0 < L.length := by rcases hp with h | h; (cases h); exact h
  obtain ⟨b', off, ha, hbs, _⟩ := hL 0 hp'
  subst ha
  have : b' = b := by simpa [Value.ownBlock] using hbb
  omega
theorem srst_push {W W0 w5 w6 : World} {eS eI : TypeId} {q g c gc cc g5 c5 gc6 cc6 : Nat} {vs : List Value} {m : Mz} {E : List En} (h : SrSt W W0 eS eI q g c gc cc vs m E) {v : Value} {L : List Int} (O' : Nat) (he : RwE false W W0.heap.size eI g gc q v L) (o1 o2 : Obj)
    (own5 : w5.ownsRow W0.heap.size eS 1 (.slice (some ⟨g5, 0, none⟩) (E.length + 1) c5) (E.length + 1) (vs ++ [v])) (hg5 : (W.alloc o1).grownBy w5 (some g)) (hat5 : g = g5 ∨ g5 = W.heap.size + 1) (hlt5 : g5 < w5.heap.size)
    (own6 : w6.ownsRow W0.heap.size eI 1 (.slice (some ⟨gc6, 0, none⟩) (E.length + 1) cc6) (E.length + 1) (ints (codesE m E) ++ [.int .i64 ((cdF m (hasI L) : Nat) : Int)])) (hg6 : ((w5.setCell ⟨q, 0, none⟩ (.slice (some ⟨g5, 0, none⟩) (E.length + 1) c5)).alloc o2).grownBy w6 (some gc)) (hat6 : gc = gc6 ∨ gc6 = w5.heap.size + 1) (hlt6 : gc6 < w6.heap.size) :
    SrSt (w6.setCell ⟨q, 1, none⟩ (.slice (some ⟨gc6, 0, none⟩) (E.length + 1) cc6)) W0 eS eI q g5 c5 gc6 cc6 (vs ++ [v]) m (E ++ [(L, O')]) ∧
    ∀ u M, RwE false W W0.heap.size eI g gc q u M → RwE false (w6.setCell ⟨q, 1, none⟩ (.slice (some ⟨gc6, 0, none⟩) (E.length + 1) cc6)) W0.heap.size eI g5 gc6 q u M := by
  have hA : Below W.heap.size W (W.alloc o1) := (Below.refl _ _).alloc (Nat.le_refl _) o1
  have h1 := h.later hA
  have z0 : (W.alloc o1).heap.size = W.heap.size + 1 := by simp
  have z1 := hg5.size
  have hat5' : g = g5 ∨ (W.alloc o1).heap.size ≤ g5 := by
    rcases hat5 with h | h
    · exact .inl h
    · exact .inr (by omega)
  have lq := h.lq
  have lt := h.lt
  have gl := h.gl
  have gs := h.row.gs
  have n1 := h.n1
  have n2 := h.n2
  have n3 := h.n3
  obtain ⟨R2, r2a, r2b⟩ := h1.row.push (L := L) (he.later hA) (by omega) (by omega) (fun e => n1 e.symm) n2 (by simpa using own5) hg5 hat5' hlt5
  have cod2 := ((Own.of h1.cod).grown_ne hg5 (fun b hb e => by cases e; cases hb; exact n1 rfl)).row
  have q1 : w5.cell? ⟨q, 1, none⟩ = some (.slice (some ⟨gc, 0, none⟩) E.length cc) := cell_ne hg5 (by omega) n2 h1.c1
  have q0 : w5.cell? ⟨q, 0, none⟩ = some (.slice (some ⟨g, 0, none⟩) E.length c) := cell_ne hg5 (by omega) n2 h1.c0
  have f0 : w5.frozen? ⟨q, 0, none⟩ = false := frozen_ne hg5 (by omega) n2 h1.f0
  have f1 : w5.frozen? ⟨q, 1, none⟩ = false := frozen_ne hg5 (by omega) n2 h1.f1
  have hs1 := grown_setCell w5 ⟨q, 0, none⟩ (.slice (some ⟨g5, 0, none⟩) (E.length + 1) c5)
  have z2 : (w5.setCell ⟨q, 0, none⟩ (.slice (some ⟨g5, 0, none⟩) (E.length + 1) c5)).heap.size = w5.heap.size := by simp
  have R3 := R2.grown hs1 (.inr rfl) (fun e => r2b e.symm)
  have hA2 : Below (w5.setCell ⟨q, 0, none⟩ (.slice (some ⟨g5, 0, none⟩) (E.length + 1) c5)).heap.size (w5.setCell ⟨q, 0, none⟩ (.slice (some ⟨g5, 0, none⟩) (E.length + 1) c5)) ((w5.setCell ⟨q, 0, none⟩ (.slice (some ⟨g5, 0, none⟩) (E.length + 1) c5)).alloc o2) := (Below.refl _ _).alloc (Nat.le_refl _) o2
  have R4 := R3.later hA2
  have z3 : ((w5.setCell ⟨q, 0, none⟩ (.slice (some ⟨g5, 0, none⟩) (E.length + 1) c5)).alloc o2).heap.size = w5.heap.size + 1 := by simp
  have z4 := hg6.size
  have hat6' : gc = gc6 ∨ ((w5.setCell ⟨q, 0, none⟩ (.slice (some ⟨g5, 0, none⟩) (E.length + 1) c5)).alloc o2).heap.size ≤ gc6 := by
    rcases hat6 with h | h
    · exact .inl h
    · exact .inr (by omega)
  have R5 := R4.moveX hg6 (x' := gc6) hat6' (fun e => r2a e.symm)
  have hs2 := grown_setCell w6 ⟨q, 1, none⟩ (.slice (some ⟨gc6, 0, none⟩) (E.length + 1) cc6)
  have R6 := R5.grown hs2 (.inr rfl) (fun e => r2b e.symm)
  have p0 : ((w5.setCell ⟨q, 0, none⟩ (.slice (some ⟨g5, 0, none⟩) (E.length + 1) c5)).alloc o2).cell? ⟨q, 0, none⟩ = some (.slice (some ⟨g5, 0, none⟩) (E.length + 1) c5) := by
    rw [World.cell?_alloc_lt _ _ _ (by show q < _; rw [z2]; omega)]; exact World.cell?_setCell_same' _ _ _ (by rw [q0]; rfl)
  have p1 : ((w5.setCell ⟨q, 0, none⟩ (.slice (some ⟨g5, 0, none⟩) (E.length + 1) c5)).alloc o2).cell? ⟨q, 1, none⟩ = some (.slice (some ⟨gc, 0, none⟩) E.length cc) := by
    rw [World.cell?_alloc_lt _ _ _ (by show q < _; rw [z2]; omega), World.cell?_setCell_other _ _ _ _ (by simp)]; exact q1
  have pf : ∀ o, ((w5.setCell ⟨q, 0, none⟩ (.slice (some ⟨g5, 0, none⟩) (E.length + 1) c5)).alloc o2).frozen? ⟨q, o, none⟩ = w5.frozen? ⟨q, o, none⟩ := fun o => by
    rw [World.frozen?_alloc_old _ _ _ (by show q ≠ _; rw [z2]; omega)]; simp
  have s0 := cell_ne hg6 (by omega) n3 p0
  have s1 := cell_ne hg6 (by omega) n3 p1
  have t0 := frozen_ne hg6 (by omega) n3 ((pf 0).trans f0)
  have t1 := frozen_ne hg6 (by omega) n3 ((pf 1).trans f1)
  have hbel : Below W0.heap.size W0 (w6.setCell ⟨q, 1, none⟩ (.slice (some ⟨gc6, 0, none⟩) (E.length + 1) cc6)) := by
    have b1 := (h.bel.alloc h.bel.size o1).grown hg5 (by have := h.bel.size; omega) (fun b hb => by cases hb; exact own_block_lo h.row.row rfl)
    have b2 := Below.alloc (Below.setCell b1 (p := ⟨q, 0, none⟩) lq (.slice (some ⟨g5, 0, none⟩) (E.length + 1) c5)) (by have := h.bel.size; rw [z2]; omega) o2
    exact Below.setCell (b2.grown hg6 (by have := h.bel.size; omega) (fun b hb => by cases hb; exact own_block_lo h.cod rfl)) (p := ⟨q, 1, none⟩) lq _
  have e1 : lisE (E ++ [((L, O') : En)]) = lisE E ++ [L] := by simp [lisE]
  have e2 : codesE m (E ++ [((L, O') : En)]) = codesE m E ++ [((cdF m (hasI L) : Nat) : Int)] := by simp [codesE]
  refine ⟨⟨by rw [e1]; exact R6, ?_, ?_, ?_, ?_, ?_, ?_, by omega, ?_, lq, by simp; omega, by simpa using hlt6, hbel⟩, fun u M hu => ?_⟩
  · rw [e2, ints_snoc, List.length_append]
    exact ((Own.of own6).grown_ne hs2 (fun b hb e => by cases e; cases hb; rcases hat6 with h | h <;> omega)).row
  · rw [World.cell?_setCell_other _ _ _ _ (by simp), s0]; simp
  · rw [List.length_append]; exact World.cell?_setCell_same' _ _ _ (by rw [s1]; rfl)
  · simpa using t0
  · simpa using t1
  · rcases hat6 with h | h <;> omega
  · rcases hat6 with h | h <;> omega
  · have u2 := (hu.later hA).move hg5 (g' := g5) hat5'
    have u3 := (u2.grown hs1 (.inr (.inr rfl))).later hA2
    have u4 := u3.moveX hg6 (x' := gc6) hat6'
    exact u4.grown hs2 (.inr (.inr rfl))
end Go.KD
namespace Go.Proofs.Ytcjcgcgcloanpaa
open Go.RowKit Go.KD
attribute [local go_sem] later_cell later_frozen
set_option maxRecDepth 100000 in
set_option maxHeartbeats 16000000 in
theorem l7Search_c (v : Value) (m : Mz) (aB : Option Addr) (cB nB : Nat) (L : List Int) (O : Nat) (w : World) (hnB : nB = L.length) (hm : MzAt w v m) (hg : goodB m = true) (hL : IC w aB L) (hOp : Opn m L O) : Calls Try.prog 99 #[v, .slice aB nB cB] w fun e w' =>
    ∃ g c gc cc vs, e = .returned (.agg #[.slice (some ⟨g, 0, none⟩) (srF m [(L, O)]).length c, .slice (some ⟨gc, 0, none⟩) (srF m [(L, O)]).length cc]) ∧ (∃ lo x y, RwS false w' lo 25 3 g c x y vs (lisE (srF m [(L, O)]))) ∧ IC w' (some ⟨gc, 0, none⟩) (codesE m (srF m [(L, O)])) ∧ Below w.heap.size w w' := by
  subst hnB
  have hM := hm
  obtain ⟨⟨ad, cd, ak, ck, rfl, hd, hk'⟩, nd, nk⟩ := hM
  obtain ⟨i0, ji, jz0, jz1, jz2⟩ := info_parts infoI
  obtain ⟨s0, si, sz0, sz1, sz2⟩ := info_parts infoS
  have OK := Lib.hid (good_ok hg)
  have HGD := Lib.hid hg
  have hng : m.doors.length ≤ 30 := OK.out.nd
  have HL10 : Hid ((locksI m).length ≤ 10) := by simp only [goodB, Bool.and_eq_true, decide_eq_true_eq] at hg; exact hg.2
  have HLL := Lib.hid (opn_len OK.out hOp)
  have HOP := Lib.hid hOp
  obtain ⟨E0, hE0⟩ : ∃ E0 : List En, E0 = [(L, O)] := ⟨_, rfl⟩
  have HSO : Hid (∀ i, SrOk m (srE m E0 i)) := by rw [hE0]; exact srE_ok (sr_one m hOp)
  have HE0 := Lib.hid hE0
  rw [← hE0]
  have HLC : Hid (cdF m (hasI L) = cdK (locksI m) (hasI L) (locksI m).length) := rfl
  clear hg hOp hE0
  go_enter Try.func99, Try.ntmps99
  go_wp2_with fail
  refine (l7Locks_c _ m _ (hm.later (by (repeat (first | exact Below.refl _ _ | apply Below.drew | apply below_drewN | (refine Below.setCell ?_ (by first | omega | (simp; done) | (simp; omega) | (dsimp only; omega)) _) | (refine Below.alloc ?_ (by first | omega | (simp; done) | (simp; omega) | (dsimp only; omega)) _)))))).mono ?_
  rintro e w3 ⟨u5, rfl, ho5, hb5⟩
  obtain ⟨a5, c5, rfl⟩ := own_slice ho5
  have HI5 : Hid (IC w3 a5 (locksI m)) := ic_of (Own.of ho5)
  have HB3 : Hid (Below w.heap.size w w3) := Below.trans (by (repeat (first | exact Below.refl _ _ | apply Below.drew | apply below_drewN | (refine Below.setCell ?_ (by first | omega | (simp; done) | (simp; omega) | (dsimp only; omega)) _) | (refine Below.alloc ?_ (by first | omega | (simp; done) | (simp; omega) | (dsimp only; omega)) _)))) (hb5.mono (by simp; omega))
  have bx0 : w3.cell? ⟨w.heap.size, 0, none⟩ = some (.int .i64 m.size) := (hb5.cell (p := ⟨w.heap.size, 0, none⟩) (by simp; omega)).trans (by simp [go_sem])
  have bx1 : w3.cell? ⟨w.heap.size, 1, none⟩ = some (.slice ad m.doors.length cd) := (hb5.cell (p := ⟨w.heap.size, 1, none⟩) (by simp; omega)).trans (by simp [go_sem])
  have bx2 : w3.cell? ⟨w.heap.size, 2, none⟩ = some (.slice ak m.keys.length ck) := (hb5.cell (p := ⟨w.heap.size, 2, none⟩) (by simp; omega)).trans (by simp [go_sem])
  have by0 : w3.cell? ⟨w.heap.size + 1, 0, none⟩ = some (.slice none 0 0) := (hb5.cell (p := ⟨w.heap.size + 1, 0, none⟩) (by simp)).trans (by simp [go_sem])
  have by1 : w3.cell? ⟨w.heap.size + 1, 1, none⟩ = some (.slice none 0 0) := (hb5.cell (p := ⟨w.heap.size + 1, 1, none⟩) (by simp)).trans (by simp [go_sem])
  have bz0 : w3.frozen? ⟨w.heap.size + 1, 0, none⟩ = false := (hb5.frozen (p := ⟨w.heap.size + 1, 0, none⟩) (by simp)).trans (by simp [go_sem])
  have bz1 : w3.frozen? ⟨w.heap.size + 1, 1, none⟩ = false := (hb5.frozen (p := ⟨w.heap.size + 1, 1, none⟩) (by simp)).trans (by simp [go_sem])
  have hz3 : w.heap.size + 2 ≤ w3.heap.size := by have := hb5.size; simp at this; omega
  have HBX : Hid (∀ W, Below w3.heap.size w3 W → W.cell? ⟨w.heap.size, 0, none⟩ = some (.int .i64 m.size) ∧ W.cell? ⟨w.heap.size, 1, none⟩ = some (.slice ad m.doors.length cd) ∧ W.cell? ⟨w.heap.size, 2, none⟩ = some (.slice ak m.keys.length ck)) := fun W hW => ⟨(hW.cell (p := ⟨w.heap.size, 0, none⟩) (by show w.heap.size < _; omega)).trans bx0, (hW.cell (p := ⟨w.heap.size, 1, none⟩) (by show w.heap.size < _; omega)).trans bx1, (hW.cell (p := ⟨w.heap.size, 2, none⟩) (by show w.heap.size < _; omega)).trans bx2⟩
  have HBY : Hid (∀ W, Below w3.heap.size w3 W → W.cell? ⟨w.heap.size + 1, 0, none⟩ = some (.slice none 0 0) ∧ W.cell? ⟨w.heap.size + 1, 1, none⟩ = some (.slice none 0 0) ∧ W.frozen? ⟨w.heap.size + 1, 0, none⟩ = false ∧ W.frozen? ⟨w.heap.size + 1, 1, none⟩ = false) := fun W hW => ⟨(hW.cell (p := ⟨w.heap.size + 1, 0, none⟩) (by show w.heap.size + 1 < _; omega)).trans by0, (hW.cell (p := ⟨w.heap.size + 1, 1, none⟩) (by show w.heap.size + 1 < _; omega)).trans by1, (hW.frozen (p := ⟨w.heap.size + 1, 0, none⟩) (by show w.heap.size + 1 < _; omega)).trans bz0, (hW.frozen (p := ⟨w.heap.size + 1, 1, none⟩) (by show w.heap.size + 1 < _; omega)).trans bz1⟩
  clear ho5 hb5 bx0 bx1 bx2 by0 by1 bz0 bz1
  go_wp2_with fail
  refine (l7Code_c _ _ _ (locksI m) _ _ _ L _ rfl rfl (HI5.out.later (by (repeat (first | exact Below.refl _ _ | apply Below.drew | apply below_drewN | (refine Below.setCell ?_ (by first | omega | (simp; done) | (simp; omega) | (dsimp only; omega)) _) | (refine Below.alloc ?_ (by first | omega | (simp; done) | (simp; omega) | (dsimp only; omega)) _))))) (hL.later (HB3.out.trans (Below.alloc (Below.refl _ _) (by omega) _))) HL10.out (by have := HLL.out; omega)).mono ?_
  rintro e w4 ⟨rfl, rfl⟩
  go_wp2_with fail
  have HST := Lib.hid (srst_start (tS := 25) (tI := 3) (t59 := 73) (c := cB) (m := m) (O := O) (hL.later HB3.out))
  rw [← HE0.out] at HST
  go_loopw [7] (fun i wr => ∃ (k g c gc cc : Nat) (vs : List Value), i = .int .i64 k ∧ k ≤ (srE m E0 k).length ∧ k ≤ 1024 ∧ Hid (SrSt wr w3 25 3 (w3.heap.size + 1 + 1) g c gc cc vs m (srE m E0 k))) (fun i _ => 1024 - (intOf i).toNat)
  case atStart => exact ⟨0, _, _, _, _, _, rfl, Nat.zero_le _, by omega, HST⟩
  case round =>
    clear HST
    obtain ⟨wo, rfl⟩ : ∃ wo : World, wo = wr := ⟨_, rfl⟩
    obtain ⟨k, g, c, gc, cc, vs, rfl, hk, hk2, HS⟩ := hrel
    obtain ⟨E, hE⟩ : ∃ E, E = srE m E0 k := ⟨_, rfl⟩
    rw [← hE] at hk HS
    have HOE : Hid (SrOk m E) := by rw [hE]; exact HSO.out k
    have hle : E.length ≤ 1024 := HOE.out.le HGD.out
    have HE := Lib.hid hE
    clear hE
    have c0 := HS.out.c0
    have hqz := HS.out.lt
    have HBO : Hid (Below w.heap.size w wo) := HB3.out.trans (HS.out.bel.mono (by omega))
    have HBW := Lib.hid HS.out.bel
    by_cases hlt : k < E.length
    · have hkI : (k : Int) < (E.length : Int) := by omega
      have HNX : Hid (srE m E0 (k + 1) = expE m E k) := by show _ = _; rw [srE_next (by rw [← HE.out]; exact hlt), ← HE.out]
      obtain ⟨Lk, hLk⟩ : ∃ Lk, Lk = (E[k]!).1 := ⟨_, rfl⟩
      obtain ⟨Ok, hOk⟩ : ∃ Ok, Ok = (E[k]!).2 := ⟨_, rfl⟩
      have HOPk : Hid (Opn m Lk Ok) := by
        show Opn m Lk Ok
        rw [hLk, hOk]
        exact HOE.out.all E[k]! (by rw [getElem!_pos E k hlt]; exact List.getElem_mem hlt)
      have HLK := Lib.hid hLk
      have HOK2 := Lib.hid hOk
      obtain ⟨nxt, hnxt⟩ : ∃ nxt, nxt = nextL m Ok Lk := ⟨_, rfl⟩
      have HNXT := Lib.hid hnxt
      have hnl : nxt.length ≤ 30 := by rw [hnxt]; exact Nat.le_trans (nextL_len m Ok Lk) hng
      have hLk30 := opn_len OK.out HOPk.out
      have he := HS.out.row.each k (by simpa using hlt)
      rw [lisE_at hlt, ← hLk] at he
      obtain ⟨aK, cK, hvk, hik⟩ := he.ic
      have ek := HS.out.row.cell (i := k) (by simpa using hlt)
      rw [hvk] at ek
      have hgz := HS.out.row.gs
      have HIK := Lib.hid hik
      obtain ⟨q0, q1, q2⟩ := HBX.out wo HBW.out
      have HS2 : Hid (∀ W, Below wo.heap.size wo W → W.cell? ⟨w.heap.size, 0, none⟩ = some (.int .i64 m.size) ∧ W.cell? ⟨w.heap.size, 1, none⟩ = some (.slice ad m.doors.length cd) ∧ W.cell? ⟨w.heap.size, 2, none⟩ = some (.slice ak m.keys.length ck) ∧ W.cell? ⟨w3.heap.size + 1 + 1, 0, none⟩ = some (.slice (some ⟨g, 0, none⟩) E.length c) ∧ W.cell? ⟨g, k, none⟩ = some (.slice aK Lk.length cK)) := fun W hW => ⟨(HBX.out W (HBW.out.trans (hW.mono HBW.out.size))).1, (HBX.out W (HBW.out.trans (hW.mono HBW.out.size))).2.1, (HBX.out W (HBW.out.trans (hW.mono HBW.out.size))).2.2, (hW.cell (p := ⟨w3.heap.size + 1 + 1, 0, none⟩) hqz).trans c0, (hW.cell (p := ⟨g, k, none⟩) hgz).trans ek⟩
      clear hLk hOk hnxt he hvk hik
      go_wp2
      go_region_held3 (fun W => W.cell? ⟨w.heap.size, 0, none⟩ = some (.int .i64 m.size) ∧ W.cell? ⟨w.heap.size, 1, none⟩ = some (.slice ad m.doors.length cd) ∧ W.cell? ⟨w.heap.size, 2, none⟩ = some (.slice ak m.keys.length ck) ∧ W.cell? ⟨w3.heap.size + 1 + 1, 0, none⟩ = some (.slice (some ⟨g, 0, none⟩) E.length c) ∧ W.cell? ⟨g, k, none⟩ = some (.slice aK Lk.length cK))
        (exact HS2.out _ (by repeat (first | exact Below.refl _ _ | exact HB8.out | apply Below.drew | apply below_drewN | (refine Below.setCell ?_ (by first | omega | (simp; done) | (simp; omega) | (dsimp only; omega)) _) | (refine Below.alloc ?_ (by first | omega | (simp; done) | (simp; omega) | (dsimp only; omega)) _))))
        ((go_at_call 84; refine (l7NextN_c _ m Ok _ _ _ Lk _ rfl ((hm.later HBO.out).later (by repeat (first | exact Below.refl _ _ | apply Below.drew | apply below_drewN | (refine Below.setCell ?_ (by first | omega | (simp; done) | (simp; omega) | (dsimp only; omega)) _) | (refine Below.alloc ?_ (by first | omega | (simp; done) | (simp; omega) | (dsimp only; omega)) _)))) OK.out (HIK.out.later (by repeat (first | exact Below.refl _ _ | apply Below.drew | apply below_drewN | (refine Below.setCell ?_ (by first | omega | (simp; done) | (simp; omega) | (dsimp only; omega)) _) | (refine Below.alloc ?_ (by first | omega | (simp; done) | (simp; omega) | (dsimp only; omega)) _)))) (by omega) (opn_ok OK.out HOPk.out)).mono ?_; rintro e w8 ⟨u8, rfl, ho8, hb8⟩; have HB8 : Hid (Below wo.heap.size wo w8) := (Below.refl _ _).drew.trans hb8; have HO8 := Lib.hid ho8; clear ho8 hb8))
      rw [← HNXT.out] at HO8
      obtain ⟨a8, c8, rfl⟩ := own_slice HO8.out
      have HS8 := Lib.hid (HS.out.later HB8.out)
      have HN8 : Hid (RwE false w8 w3.heap.size 3 g gc (w3.heap.size + 1 + 1) (.slice a8 nxt.length c8) nxt) := by
        refine ⟨⟨a8, c8, rfl, ic_of (Own.of HO8.out)⟩, fun b hb _ => ?_, fun h => by cases h⟩
        have h1 := own_block_lo HO8.out hb
        have h2 := (Own.of HO8.out).top b hb
        have h3 := HS.out.gl
        have h4 : wo.drew.heap.size = wo.heap.size := rfl
        omega
      clear HS2 HS q0 q1 q2 c0 ek HIK HO8 hqz
      go_wp2
      go_loopw [9] (fun jv wr => ∃ (j g c gc cc : Nat) (vs : List Value), jv = .int .i64 j ∧ j ≤ nxt.length ∧ Hid (SrSt wr w3 25 3 (w3.heap.size + 1 + 1) g c gc cc vs m (expJ m E k j)) ∧ Hid (RwE false wr w3.heap.size 3 g gc (w3.heap.size + 1 + 1) (.slice a8 nxt.length c8) nxt)) (fun jv _ => nxt.length - (intOf jv).toNat)
      case atStart => exact ⟨0, g, c, gc, cc, vs, rfl, Nat.zero_le _, HS8, HN8⟩
      case round =>
        clear HS8 HN8 HB8 HBO HBW hgz
        obtain ⟨wi, rfl⟩ : ∃ wi : World, wi = wr := ⟨_, rfl⟩
        obtain ⟨j, g, c, gc, cc, vs, rfl, hj, HS, HN⟩ := hrel
        have hjE : j ≤ (nextL m (E[k]!).2 (E[k]!).1).length := by rw [← HOK2.out, ← HLK.out, ← HNXT.out]; exact hj
        have HOJ : Hid (SrOk m (expJ m E k j)) := expJ_ok HOE.out hlt j hjE
        obtain ⟨F, hF⟩ : ∃ F, F = expJ m E k j := ⟨_, rfl⟩
        have hpre : E <+: F := by rw [hF]; exact expJ_pre m E k j
        have hFk : F[k]! = E[k]! := pre_at hpre hlt
        have hFl : k < F.length := Nat.lt_of_lt_of_le hlt hpre.length_le
        rw [← hF] at HS HOJ
        have HF := Lib.hid hF
        have hFle : F.length ≤ 1024 := HOJ.out.le HGD.out
        have hqz := HS.out.lt
        have hgz := HS.out.row.gs
        have c0 := HS.out.c0
        have c1 := HS.out.c1
        have f0 := HS.out.f0
        have f1 := HS.out.f1
        have HBW := Lib.hid HS.out.bel
        clear hF
        by_cases hlt2 : j < nxt.length
        · have hjI : (j : Int) < (nxt.length : Int) := by omega
          obtain ⟨a8', c8', h8, hi8⟩ := HN.out.ic
          cases h8
          obtain ⟨b8, off8, xI, ha8, HX, hbs8, e8⟩ := hi8.at j hlt2
          subst ha8
          have hh : hasI (nextL m Ok Lk) xI = true := by rw [hasI_iff, ← HNXT.out, ← HX.out, getElem!_pos nxt j hlt2]; exact List.getElem_mem hlt2
          obtain ⟨x, rfl, hxd⟩ := next_nat hh
          have HOPn : Hid (Opn m (Lk ++ [(x : Int)]) (setN Ok x)) := opn_snoc HOPk.out hh
          have HJS : Hid (expJ m E k (j + 1) = addE Lk Ok F x) := by
            show _ = _
            rw [expJ_step m E k (by rw [← HOK2.out, ← HLK.out, ← HNXT.out]; exact hlt2), ← HF.out, ← HLK.out, ← HOK2.out, ← HNXT.out, HX.out]
          have he := HS.out.row.each k (by simpa using hFl)
          rw [lisE_at hFl, hFk, ← HLK.out] at he
          obtain ⟨aK, cK, hvk, hik⟩ := he.ic
          have ek := HS.out.row.cell (i := k) (by simpa using hFl)
          rw [hvk] at ek
          have HIK := Lib.hid hik
          have hkF : (k : Int) < (F.length : Int) := by omega
          have HHS : Hid (hasI (codesE m F) ((cdF m (hasI (Lk ++ [(x : Int)])) : Nat) : Int) = F.any (fun e => e.2 == setN Ok x)) := codes_has OK.out HOJ.out.all HOPn.out
          have hLn : (Lk ++ [(x : Int)]).length = Lk.length + 1 := by simp
          have HLN := Lib.hid hLn
          have HS2 : Hid (∀ W, Below wi.heap.size wi W → W.cell? ⟨w3.heap.size + 1 + 1, 0, none⟩ = some (.slice (some ⟨g, 0, none⟩) F.length c) ∧ W.cell? ⟨g, k, none⟩ = some (.slice aK Lk.length cK) ∧ W.cell? ⟨b8, off8 + j, none⟩ = some (.int .i64 x)) := fun W hW => ⟨(hW.cell (p := ⟨w3.heap.size + 1 + 1, 0, none⟩) hqz).trans c0, (hW.cell (p := ⟨g, k, none⟩) hgz).trans ek, (hW.cell (p := ⟨b8, off8 + j, none⟩) hbs8).trans e8⟩
          clear hh he hvk hik hi8 hpre hFk hLn
          go_upto_region 10 with fail
          go_cut [10] (fun s10 wx => ∃ gn cn : Nat, s10 = .slice (some ⟨gn, 0, none⟩) (Lk.length + 1) cn ∧ Hid (wx.ownsRow wi.heap.size 3 1 (.slice (some ⟨gn, 0, none⟩) (Lk.length + 1) cn) (Lk.length + 1) (ints (Lk ++ [(x : Int)])) ∧ Below wi.heap.size wi wx))
          case first =>
            go_region_held3 (fun W => W.cell? ⟨w3.heap.size + 1 + 1, 0, none⟩ = some (.slice (some ⟨g, 0, none⟩) F.length c) ∧ W.cell? ⟨g, k, none⟩ = some (.slice aK Lk.length cK) ∧ W.cell? ⟨b8, off8 + j, none⟩ = some (.int .i64 x))
              (exact HS2.out _ (by repeat (first | exact Below.refl _ _ | exact HB5.out | exact HB4.out | apply Below.drew | apply below_drewN | (refine Below.setCell ?_ (by first | omega | (simp; done) | (simp; omega) | (dsimp only; omega)) _) | (refine Below.alloc ?_ (by first | omega | (simp; done) | (simp; omega) | (dsimp only; omega)) _))))
              (first
                | (go_at_call 91; refine (l1Own_c _ _ _ Lk _ rfl (HIK.out.later (by repeat (first | exact Below.refl _ _ | apply Below.drew | apply below_drewN | (refine Below.setCell ?_ (by first | omega | (simp; done) | (simp; omega) | (dsimp only; omega)) _) | (refine Below.alloc ?_ (by first | omega | (simp; done) | (simp; omega) | (dsimp only; omega)) _)))) (by omega)).mono ?_; rintro e w4 ⟨v4, rfl, ho4, hb4⟩; obtain ⟨a4, c4, rfl⟩ := own_slice ho4; have HB4 : Hid (Below wi.heap.size wi w4) := Below.trans (by repeat (first | exact Below.refl _ _ | apply Below.drew | apply below_drewN | (refine Below.setCell ?_ (by first | omega | (simp; done) | (simp; omega) | (dsimp only; omega)) _) | (refine Below.alloc ?_ (by first | omega | (simp; done) | (simp; omega) | (dsimp only; omega)) _))) (hb4.mono (by first | exact Nat.le_refl _ | (simp; done) | (simp; omega))); have HO4 : Hid (w4.ownsRow wi.heap.size 3 1 (.slice a4 Lk.length c4) Lk.length (ints Lk)) := (Own.mono (Own.of ho4) (by first | exact Nat.le_refl _ | (simp; done) | (simp; omega)) (Nat.le_refl _)).row; obtain ⟨hc4, hf4, hz4⟩ := bcell3 hb4; (try simp only [World.size_alloc, World.size_drew] at hz4 hc4 hf4); have hz4' : wi.heap.size ≤ w4.heap.size := HB4.out.size; clear ho4 hb4)
                | (refine step_append_below _ wi wi.heap.size (by repeat (first | exact Below.refl _ _ | exact HB4.out | apply Below.drew | apply below_drewN | (refine Below.setCell ?_ (by first | omega | (simp; done) | (simp; omega) | (dsimp only; omega)) _) | (refine Below.alloc ?_ (by first | omega | (simp; done) | (simp; omega) | (dsimp only; omega)) _))) (by rfl) _ _ 25 (by rfl) 3 i0 (.int .i64 0) 1 8 Try.underlying25 ji jz0 jz1 jz2 rfl (by decide) (.slice a4 Lk.length c4) Lk.length (ints Lk) (by rfl) (HO4.out.alloc _) ⟨w4.heap.size, 0, none⟩ 1 1 [.int .i64 x] (by rfl) rfl (news_one (by simp [go_sem])) (by simp [Value.oneCell']) (by unfold maxLen; omega) (by omega) (by first | omega | (simp; omega)) ?_; intro v5 w5 hown5 hg5 hB5; have HB5 := Lib.hid hB5; have HO5 := Lib.hid hown5; clear hown5 hg5 hB5)
                | (refine step_append_below _ wi wi.heap.size (by repeat (first | exact Below.refl _ _ | exact HB4.out | apply Below.drew | apply below_drewN | (refine Below.setCell ?_ (by first | omega | (simp; done) | (simp; omega) | (dsimp only; omega)) _) | (refine Below.alloc ?_ (by first | omega | (simp; done) | (simp; omega) | (dsimp only; omega)) _))) (by rfl) _ _ 25 (by rfl) 3 i0 (.int .i64 0) 1 8 Try.underlying25 ji jz0 jz1 jz2 rfl (by decide) (.slice a4 Lk.length c4) Lk.length (ints Lk) (by rfl) HO4.out ⟨wi.heap.size, 0, none⟩ 1 1 [.int .i64 x] (by rfl) rfl (news_one (by rw [hc4 _ _ (by omega)]; simp [go_sem])) (by simp [Value.oneCell']) (by unfold maxLen; omega) (by omega) (by first | omega | (simp; omega)) ?_; intro v5 w5 hown5 hg5 hB5; have HB5 := Lib.hid hB5; have HO5 := Lib.hid hown5; clear hown5 hg5 hB5))
            all_goals
              obtain ⟨gn, cn, rfl, -, -⟩ := own_someD HO5.out (by omega)
              go_wp2_with fail
              go_meet
              case rel => exact ⟨gn, cn, rfl, (⟨by rw [ints_snoc]; exact HO5.out, HB5.out⟩ : _ ∧ _)⟩
          case rest =>
            obtain ⟨gn, cn, rfl, HC⟩ := hcut
            have HOC := Lib.hid HC.out.1
            have HBC := Lib.hid HC.out.2
            have hzc := HC.out.2.size
            have HSC := Lib.hid (HS.out.later HBC.out)
            have HNC := Lib.hid (HN.out.later HBC.out)
            have hgn1 := own_block_lo HOC.out (g := gn) rfl
            have hgn2 := (Own.of HOC.out).top gn rfl
            have HBWC := Lib.hid HSC.out.bel
            have HEC : Hid (RwE false wc w3.heap.size 3 g gc (w3.heap.size + 1 + 1) (.slice (some ⟨gn, 0, none⟩) (Lk.length + 1) cn) (Lk ++ [(x : Int)])) := by
              refine ⟨⟨_, cn, by rw [HLN.out], ic_of' (Own.of HOC.out) HLN.out.symm⟩, fun b hb _ => ?_, fun h => by cases h⟩
              have : gn = b := by simpa [Value.ownBlock] using hb
              have h3 := HS.out.gl
              omega
            clear HC c0 c1 f0 f1 e8 ek
            go_wp2_with fail
            refine (l7Code_c _ _ _ (locksI m) _ _ _ (Lk ++ [(x : Int)]) _ rfl HLN.out.symm (HI5.out.later HBWC.out) (ic_of' (Own.of HOC.out) HLN.out.symm) HL10.out (by rw [HLN.out]; omega)).mono ?_
            rintro e w6 ⟨rfl, rfl⟩
            have hcdv : (cdK (locksI m) (hasI (Lk ++ [(x : Int)])) (locksI m).length : Nat) = cdF m (hasI (Lk ++ [(x : Int)])) := rfl
            rw [hcdv]
            obtain ⟨cd0, hcd⟩ : ∃ cd0, cd0 = cdF m (hasI (Lk ++ [(x : Int)])) := ⟨_, rfl⟩
            rw [← hcd] at HHS ⊢
            have HCD := Lib.hid hcd
            clear hcd hcdv
            have c0 := HSC.out.c0
            have c1 := HSC.out.c1
            have f0 := HSC.out.f0
            have f1 := HSC.out.f1
            go_wp2_with fail
            refine (l1Has_c _ _ _ (codesE m F) _ _ (by rw [codesE_len]) (ic_of' (Own.of HSC.out.cod) (by rw [codesE_len])) (by omega)).mono ?_
            rintro e w6 ⟨rfl, rfl⟩
            rw [HHS.out]
            cases hany : F.any (fun e => e.2 == setN Ok (x : Int))
            case true =>
              have HJN : Hid (expJ m E k (j + 1) = F) := by show _ = _; rw [HJS.out]; exact addE_no hany
              clear hany
              go_wp2
              go_roundw
              case rel => exact ⟨j + 1, g, c, gc, cc, vs, by go_num, by omega, by rw [HJN.out]; exact HSC, HNC⟩
              case measure => simp [intOf]; omega
            case false =>
              have HJN : Hid (expJ m E k (j + 1) = F ++ [(Lk ++ [(x : Int)], setN Ok (x : Int))]) := by show _ = _; rw [HJS.out]; exact addE_yes hany
              have hqc := HSC.out.lt
              have n1 := HSC.out.n1
              have n2 := HSC.out.n2
              have n3 := HSC.out.n3
              have HROW : Hid (wc.ownsRow w3.heap.size 25 1 (.slice (some ⟨g, 0, none⟩) F.length c) F.length vs) := by have := HSC.out.row.row; rw [lisE_len] at this; exact this
              have hz3c := HSC.out.bel.size
              clear hany
              go_upto_region 14 with (at_builtin; refine wpList_append_lies _ rfl _ _ 71 rfl w3.heap.size 25 s0 (.slice none 0 0) 1 24 Try.underlying71 si sz0 sz1 sz2 rfl (by decide) (.slice (some ⟨g, 0, none⟩) F.length c) _ _ rfl (HROW.out.alloc _) ⟨wc.heap.size, 0, none⟩ 1 1 [.slice (some ⟨gn, 0, none⟩) (Lk.length + 1) cn] rfl rfl ?_ ?_ (by omega) ?_ ?_ ?_ (wc.heap.size + 1) ?_ ?_; (exact cell_one_new _ _ _); (simp [Value.oneCell']); (unfold maxLen; omega); omega; (simp; omega); (simp); intro g5 c5 w5 hown5 hgrow5 hat5 hlt5; have hat5' : g = g5 ∨ g5 = wc.heap.size + 1 := (by rcases hat5 with h | h; exact .inl (by simpa [Value.ownBlock] using h); exact .inr h); have d0 : w5.cell? ⟨w3.heap.size + 1 + 1, 0, none⟩ = some (.slice (some ⟨g, 0, none⟩) F.length c) := cell_ne (z := g) hgrow5 (by simp; omega) n2 (by rw [World.cell?_alloc_lt _ _ _ (by show w3.heap.size + 1 + 1 < _; omega)]; exact c0); have d1 : w5.cell? ⟨w3.heap.size + 1 + 1, 1, none⟩ = some (.slice (some ⟨gc, 0, none⟩) F.length cc) := cell_ne (z := g) hgrow5 (by simp; omega) n2 (by rw [World.cell?_alloc_lt _ _ _ (by show w3.heap.size + 1 + 1 < _; omega)]; exact c1); have fr0 : w5.frozen? ⟨w3.heap.size + 1 + 1, 0, none⟩ = false := frozen_ne (z := g) hgrow5 (by simp; omega) n2 (by rw [World.frozen?_alloc_old _ _ _ (by show w3.heap.size + 1 + 1 ≠ _; omega)]; exact f0); have fr1 : w5.frozen? ⟨w3.heap.size + 1 + 1, 1, none⟩ = false := frozen_ne (z := g) hgrow5 (by simp; omega) n2 (by rw [World.frozen?_alloc_old _ _ _ (by show w3.heap.size + 1 + 1 ≠ _; omega)]; exact f1); have HROW5 := Lib.hid hown5; have HG5 := Lib.hid hgrow5; clear hown5 hgrow5 hat5)
              have HCOD5 : Hid ((w5.setCell ⟨w3.heap.size + 1 + 1, 0, none⟩ (.slice (some ⟨g5, 0, none⟩) (F.length + 1) c5)).ownsRow w3.heap.size 3 1 (.slice (some ⟨gc, 0, none⟩) F.length cc) F.length (ints (codesE m F))) := by
                have h1 := (Own.of HSC.out.cod).later ((Below.refl _ _).alloc (Nat.le_refl _) (.cells #[.slice (some ⟨gn, 0, none⟩) (Lk.length + 1) cn] 25)) (Nat.le_refl _)
                have h2 := h1.grown_ne HG5.out (fun b hb e => by cases e; cases hb; exact n1 rfl)
                exact (h2.grown_ne (grown_setCell w5 ⟨w3.heap.size + 1 + 1, 0, none⟩ (.slice (some ⟨g5, 0, none⟩) (F.length + 1) c5)) (fun b hb e => by cases e; cases hb; exact n3 rfl)).row
              have hz5 : wc.heap.size + 1 ≤ w5.heap.size := by have := HG5.out.size; simpa using this
              go_wp2_with (at_builtin; refine wpList_append_lies _ rfl _ _ 25 rfl w3.heap.size 3 i0 (.int .i64 0) 1 8 Try.underlying25 ji jz0 jz1 jz2 rfl (by decide) (.slice (some ⟨gc, 0, none⟩) F.length cc) _ _ rfl (HCOD5.out.alloc _) ⟨w5.heap.size, 0, none⟩ 1 1 [.int .i64 cd0] rfl rfl ?_ ?_ (by omega) ?_ ?_ ?_ (w5.heap.size + 1) ?_ ?_; (exact news_one (by first | (simp [go_sem]; done) | exact cell_new_set _ _ _ _)); (simp [Value.oneCell']); (unfold maxLen; omega); omega; (simp; omega); (simp); intro g6 c6 w6 hown6 hgrow6 hat6 hlt6; have hat6' : gc = g6 ∨ g6 = w5.heap.size + 1 := (by rcases hat6 with h | h; exact .inl (by simpa [Value.ownBlock] using h); exact .inr h); have k1 : w6.cell? ⟨w3.heap.size + 1 + 1, 1, none⟩ = some (.slice (some ⟨gc, 0, none⟩) F.length cc) := cell_ne (z := gc) hgrow6 (by simp; omega) n3 (by rw [World.cell?_alloc_lt _ _ _ (by show w3.heap.size + 1 + 1 < (World.setCell _ _ _).heap.size; simp; omega), World.cell?_setCell_other _ _ _ _ (by simp)]; exact d1); have kf1 : w6.frozen? ⟨w3.heap.size + 1 + 1, 1, none⟩ = false := frozen_ne (z := gc) hgrow6 (by simp; omega) n3 (by rw [World.frozen?_alloc_old _ _ _ (by show w3.heap.size + 1 + 1 ≠ (World.setCell _ _ _).heap.size; simp; omega)]; simpa using fr1); have HROW6 := Lib.hid hown6; have HG6 := Lib.hid hgrow6; clear hown6 hgrow6 hat6)
              have HPU := Lib.hid (srst_push HSC.out (setN Ok (x : Int)) HEC.out _ _ HROW5.out HG5.out hat5' hlt5 (by rw [← HCD.out]; exact HROW6.out) HG6.out hat6' hlt6)
              go_roundw
              case rel => exact ⟨j + 1, g5, c5, g6, c6, vs ++ [.slice (some ⟨gn, 0, none⟩) (Lk.length + 1) cn], by go_num, by omega, by rw [HJN.out]; exact HPU.out.1, HPU.out.2 _ _ HNC.out⟩
              case measure => simp [intOf]; omega
        · obtain rfl : j = nxt.length := by omega
          have HEND : Hid (F = srE m E0 (k + 1)) := by
            show _ = _
            rw [HNX.out, HF.out]
            unfold expE
            rw [← HOK2.out, ← HLK.out, ← HNXT.out]
          go_wp2
          go_roundw
          case rel => exact ⟨k + 1, g, c, gc, cc, vs, by go_num, by rw [← HEND.out]; omega, by omega, by rw [← HEND.out]; exact HS⟩
          case measure => simp [intOf]; omega
    · obtain rfl : k = E.length := by omega
      have HEND : Hid (srF m E0 = E) := by
        show _ = _
        rw [srF_eq (i := E.length) (by omega) (by rw [← HE.out]; exact Nat.le_refl _)]
        exact HE.out.symm
      have c1 := HS.out.c1
      have HROW := Lib.hid HS.out.row
      have HIC : Hid (IC wo (some ⟨gc, 0, none⟩) (codesE m E)) := ic_of' (Own.of HS.out.cod) (by rw [codesE_len])
      obtain ⟨y0, y1, y2, y3⟩ := HBY.out wo HBW.out
      have hle1 : w.heap.size + 1 < wo.heap.size := by omega
      have HNE : Hid (g ≠ w.heap.size + 1 ∧ gc ≠ w.heap.size + 1) := by
        have h1 := own_block_lo HS.out.row.row (g := g) rfl
        have h2 := own_block_lo HS.out.cod (g := gc) rfl
        exact ⟨by omega, by omega⟩
      go_wp2
      refine bodyPost_ret (v := .agg #[.slice (some ⟨g, 0, none⟩) E.length c, .slice (some ⟨gc, 0, none⟩) E.length cc]) (by simp [results, Try.results99, go_sem, y0, y1, y2, y3]) rfl ?_
      rw [HEND.out]
      refine ⟨g, c, gc, cc, vs, rfl, ?_, ?_, ?_⟩
      · exact ⟨_, _, _, (HROW.out.setV y0 (fun e => HNE.out.1 e.symm) _).setV (p := ⟨w.heap.size + 1, 1, none⟩) (by rw [World.cell?_setCell_other _ _ _ _ (by simp)]; exact y1) (fun e => HNE.out.1 e.symm) _⟩
      · exact ic_setV (ic_setV HIC.out y0 _) (p := ⟨w.heap.size + 1, 1, none⟩) (by rw [World.cell?_setCell_other _ _ _ _ (by simp)]; exact y1) _
      · exact Below.setCell (Below.setCell HBO.out (by show w.heap.size ≤ w.heap.size + 1; omega) _) (by show w.heap.size ≤ w.heap.size + 1; omega) _
end Go.Proofs.Ytcjcgcgcloanpaa

namespace Go.KD
open Go.RowKit Go.Maps
theorem plainElem_bool_inv {H : Type} {P : Program} {e : TypeId} (he : P.underlying e = some .bool) {v : Value} {z : DataW H × List MemPlace} (h : plainElem P e v = some z) : ∃ x, v = .bool x ∧ z = (.lit (.bool x), []) := by
  unfold plainElem at h
  rw [he] at h
  cases v <;> simp at h
  exact ⟨_, rfl, h.symm⟩
/-- The block b holds a map; at k it has f k. -/
def MpO (P : Program) (k e : TypeId) (W : World) (b n : Nat) (f : Nat → Option Bool) : Prop :=
  ∃ D : DataW Unit, W.ownsMap P k (plainElem P e) b n D ∧ ∀ j : Nat, j < 1073741824 → (has D (.int .i64 (j : Int)) = (f j).isSome ∧ D.atKey (.int .i64 (j : Int)) (.lit (.bool false)) = .lit (.bool ((f j).getD false)))
theorem MpO.lt {P : Program} {k e : TypeId} {W : World} {b n : Nat} {f : Nat → Option Bool} (h : MpO P k e W b n f) : b < W.heap.size := by obtain ⟨D, h, _⟩ := h; exact h.lt
theorem MpO.kept {P : Program} {k e : TypeId} {W W' : World} {b n : Nat} {f : Nat → Option Bool} {row : Option Nat} (h : MpO P k e W b n f) (hg : W.grownBy W' row) (hne : some b ≠ row) : MpO P k e W' b n f := by
  obtain ⟨D, h, r⟩ := h; exact ⟨D, h.kept hg hne, r⟩
theorem MpO.keep {P : Program} {k e : TypeId} {W W' : World} {b n : Nat} {f : Nat → Option Bool} (h : MpO P k e W b n f) (hb : W'.heap[b]? = W.heap[b]?) : MpO P k e W' b n f := by
  obtain ⟨D, ⟨es, clock, h1, r1⟩, r⟩ := h; exact ⟨D, ⟨es, clock, hb.trans h1, r1⟩, r⟩
theorem MpO.later {P : Program} {k e : TypeId} {W W' : World} {b n : Nat} {f : Nat → Option Bool} (h : MpO P k e W b n f) (hb : Below W.heap.size W W') : MpO P k e W' b n f := h.keep (hb.block b h.lt)
theorem MpO.alloc {P : Program} {k e : TypeId} {W : World} {b n : Nat} {f : Nat → Option Bool} (h : MpO P k e W b n f) (o : Obj) : MpO P k e (W.alloc o) b n f := by
  obtain ⟨D, h, r⟩ := h; exact ⟨D, h.alloc o, r⟩
theorem MpO.made (W : World) (P : Program) (k e : TypeId) : MpO P k e (W.alloc (.map #[] 0)) W.heap.size 0 (fun _ => none) :=
  ⟨.map [], World.ownsMap_made _ _ _ _, fun j _ => ⟨rfl, rfl⟩⟩
theorem MpO.congr {P : Program} {k e : TypeId} {W : World} {b n : Nat} {f g : Nat → Option Bool} (h : MpO P k e W b n f) (he : ∀ j, j < 1073741824 → f j = g j) : MpO P k e W b n g := by
  obtain ⟨D, h, r⟩ := h; exact ⟨D, h, fun j hj => by rw [← he j hj]; exact r j hj⟩
theorem wf_nat {j : Nat} (h : j < 1073741824) : (Lit.int .i64 (j : Int)).wf = true := WalkArith.wf_i64 (by omega)
theorem MpO.put {P : Program} {k e : TypeId} {W' : World} {b n : Nat} {f : Nat → Option Bool} {D : DataW Unit} (hD : IsMap D) (r : ∀ j : Nat, j < 1073741824 → (has D (.int .i64 (j : Int)) = (f j).isSome ∧ D.atKey (.int .i64 (j : Int)) (.lit (.bool false)) = .lit (.bool ((f j).getD false)))) {i : Nat} {v : Bool}
    (h : W'.ownsMap P k (plainElem P e) b (n + 1) (D.put (.int .i64 (i : Int)) (.lit (.bool v)))) : MpO P k e W' b (n + 1) (fun j => if j = i then some v else f j) := by
  refine ⟨_, h, fun j hj => ?_⟩
  show has _ _ = (if j = i then some v else f j).isSome ∧ _ = DataW.lit (.bool ((if j = i then some v else f j).getD false))
  by_cases hji : j = i
  · subst hji
    rw [if_pos rfl, has_put_same hD (k := .int .i64 (j : Int)) trivial, atKey_put_same hD (k := .int .i64 (j : Int)) trivial]
    exact ⟨rfl, rfl⟩
  · have hne : (Lit.int .i64 (j : Int)) ≠ .int .i64 (i : Int) := fun h => hji (by cases h; rfl)
    rw [if_neg hji, has_put_other hne, atKey_put_other hne]
    exact r j hj
/-- 'm[k]' -/
theorem wpList_lookup_mpo {P : Program} (w : World) {ops : Array Oper} {rest : List Oper} {o : Oper} {a : Act} {Q : Exit → Act → World → Prop}
    (hg : o.guard = none) (m x : Operand) (t : TypeId) (hop : o.op = Op.lookup t m x false)
    (k e : TypeId) (hk : P.underlying k = some (.int .i64)) (ht : P.underlying t = some (.map k e)) (he : P.underlying e = some .bool) (hz : (zeroValue e).run P w = .ok (.bool false) w) (b n : Nat) (f : Nat → Option Bool)
    (hm : a.eval m = .map (some b)) (hown : MpO P k e w b n f) (j : Nat) (hx : a.eval x = .int .i64 (j : Int)) (hj : j < 1073741824)
    (hK : wpList P ops Q rest (a.put o.dst (.bool ((f j).getD false))) w) :
    wpList P ops Q (o :: rest) a w := by
  obtain ⟨D, h, r⟩ := hown
  obtain ⟨v, ps, hrun, hv⟩ := h.lookup (int_keyed hk) ht hz (plainElem_bool he false) (keyOf_int_mk hk (wf_nat hj))
  obtain ⟨y, rfl, hy⟩ := plainElem_bool_inv he hv
  rw [(r j hj).2] at hy
  have hy' : y = (f j).getD false := by
    simp only [Prod.mk.injEq, DataW.lit.injEq, Lit.bool.injEq] at hy
    exact hy.1.symm
  subst hy'
  refine wpList_plain hg fun K' hK' => ?_
  unfold Oper.wp
  simp [execOp, hop, hm, hx, hrun, Result.andThen]
  exact hK' _ _ hK
/-- 'v, ok := m[k]' -/
theorem wpList_lookup_mpo2 {P : Program} (w : World) {ops : Array Oper} {rest : List Oper} {o : Oper} {a : Act} {Q : Exit → Act → World → Prop}
    (hg : o.guard = none) (m x : Operand) (t : TypeId) (hop : o.op = Op.lookup t m x true)
    (k e : TypeId) (hk : P.underlying k = some (.int .i64)) (ht : P.underlying t = some (.map k e)) (he : P.underlying e = some .bool) (hz : (zeroValue e).run P w = .ok (.bool false) w) (b n : Nat) (f : Nat → Option Bool)
    (hm : a.eval m = .map (some b)) (hown : MpO P k e w b n f) (j : Nat) (hx : a.eval x = .int .i64 (j : Int)) (hj : j < 1073741824)
    (hK : wpList P ops Q rest (a.put o.dst (.tuple #[.bool ((f j).getD false), .bool (f j).isSome])) w) :
    wpList P ops Q (o :: rest) a w := by
  obtain ⟨D, h, r⟩ := hown
  obtain ⟨es, clock, hb, F, _, rfl⟩ := h
  obtain ⟨r1, r2⟩ := r j hj
  have hrun : (Instr.lookup t (.map (some b)) (.int .i64 (j : Int)) true).run P w = .ok (.tuple #[.bool ((f j).getD false), .bool (f j).isSome]) w := by
    rcases Maps.fit_look true (int_keyed hk) ht hz hb F (keyOf_int_mk hk (wf_nat hj)) with ⟨hrun, _, hat⟩ | ⟨e0, y, _, _, hrun, hRv, hat, _⟩
    · have h1 := has_false_of_atKey hat
      rw [r1] at h1
      have h2 : f j = none := by cases hf : f j <;> simp [hf] at h1 ⊢
      rw [h2]; exact hrun
    · have h1 := has_true_of_atKey hat
      rw [r1] at h1
      obtain ⟨z, hzv, hzy⟩ := plainElem_bool_inv he hRv
      rw [hat, hzy] at r2
      have hz' : z = (f j).getD false := by simpa using r2
      rw [hzv, hz'] at hrun
      rw [h1]; exact hrun
  refine wpList_plain hg fun K' hK' => ?_
  unfold Oper.wp
  simp [execOp, hop, hm, hx, hrun, Result.andThen]
  exact hK' _ _ hK
/-- 'm[k] = v', and an entry of a literal. -/
theorem wpList_store_mpo {P : Program} (w : World) {ops : Array Oper} {rest : List Oper} {o : Oper} {a : Act} {Q : Exit → Act → World → Prop}
    (hg : o.guard = none) (m x v : Operand) (t : TypeId) (hop : o.op = Op.mapUpdate t m x v ∨ o.op = Op.insert t m x v)
    (k e : TypeId) (hk : P.underlying k = some (.int .i64)) (ht : P.underlying t = some (.map k e)) (he : P.underlying e = some .bool) (b n : Nat) (f : Nat → Option Bool)
    (hm : a.eval m = .map (some b)) (hown : MpO P k e w b n f) (hn : n < maxLen) (i : Nat) (y : Bool) (hx : a.eval x = .int .i64 (i : Int)) (hv : a.eval v = .bool y) (hi : i < 1073741824)
    (hK : ∀ w', MpO P k e w' b (n + 1) (fun j => if j = i then some y else f j) → w.grownBy w' (some b) → wpList P ops Q rest (a.put o.dst undef) w') :
    wpList P ops Q (o :: rest) a w := by
  obtain ⟨D, h, r⟩ := hown
  obtain ⟨w', hrun, r1, r2⟩ := h.update (int_keyed hk) ht hn (keyOf_int_mk hk (wf_nat hi)) (plainElem_bool he y)
  refine wpList_plain hg fun K' hK' => ?_
  unfold Oper.wp
  rcases hop with hop | hop
  · simp [execOp, hop, hm, hx, hv, hrun, Result.andThen]
    exact hK' _ _ (hK w' (MpO.put h.isMap r r1) r2)
  · simp [execOp, hop, hm, hx, hv, hrun, Result.andThen]
    exact hK' _ _ (hK w' (MpO.put h.isMap r r1) r2)
end Go.KD

namespace Go.KD
open Go.RowKit Go.Maps
def seenF (E : List En) : Nat → Option Bool := fun O => if E.any (fun e => e.2 == O) then some true else none
theorem seenF_get (E : List En) (O : Nat) : (seenF E O).getD false = E.any (fun e => e.2 == O) := by
  unfold seenF
  cases h : E.any (fun e => e.2 == O) <;> rfl
theorem seenF_snoc (E : List En) (L : List Int) (O : Nat) : (fun j => if j = O then some true else seenF E j) = seenF (E ++ [(L, O)]) := by
  funext j
  unfold seenF
  rw [List.any_append]
  by_cases h : j = O
  · subst h; simp
  · have h' : (O == j) = false := beq_eq_false_iff_ne.2 fun e => h e.symm
    simp only [List.any_cons, List.any_nil, if_neg h, h', Bool.or_false]
theorem RwE.chg {W W' : World} {lo lo' hi' : Nat} {eI : TypeId} {g x y : Nat} {v : Value} {L : List Int} (h : RwE true W lo eI g x y v L) (hc : Chg lo' hi' W W') (hd : hi' ≤ lo) : RwE true W' lo eI g x y v L := by
  obtain ⟨⟨a, c, hv, hi⟩, hn, ho⟩ := h
  have hz := hc.size
  have h1 := (ho rfl).chg hc (.inr hd)
  refine ⟨⟨a, c, hv, ?_⟩, fun b hbb hp => by obtain ⟨h1, h2, h3, h4⟩ := hn b hbb hp; exact ⟨h1, h2, h3, by omega⟩, fun _ => h1.mono (Nat.le_refl _) hz⟩
  rw [hv] at h1
  exact ic_of h1
theorem RwS.chg {W W' : World} {lo lo' hi' : Nat} {eS eI : TypeId} {g c x y : Nat} {vs : List Value} {Ls : List (List Int)} (h : RwS true W lo eS eI g c x y vs Ls) (hc : Chg lo' hi' W W') (hd : hi' ≤ lo) : RwS true W' lo eS eI g c x y vs Ls :=
  ⟨((Own.of h.row).chg hc (.inr hd)).row, fun i hi => (h.each i hi).chg hc hd, Nat.lt_of_lt_of_le h.gs hc.size⟩
/-- The state: the row holds E, the map M. -/
structure FsSt (P : Program) (W : World) (z : Nat) (eS eI tB : TypeId) (bx : Obj) (g c : Nat) (vs : List Value) (E M : List En) : Prop where
  row : RwS true W (z + 2) eS eI g c (z + 1) (z + 1) vs (lisE E)
  map : MpO P eI tB W (z + 1) M.length (seenF M)
  box : W.heap[z]? = some bx
variable {P : Program} {W W' : World} {z : Nat} {eS eI tB : TypeId} {bx : Obj} {g c : Nat} {vs : List Value} {E M : List En}
theorem FsSt.lt (h : FsSt P W z eS eI tB bx g c vs E M) : z < W.heap.size := (Array.getElem?_eq_some_iff.1 h.box).1
theorem FsSt.glo (h : FsSt P W z eS eI tB bx g c vs E M) : z + 2 ≤ g := own_block_lo h.row.row rfl
theorem FsSt.later (h : FsSt P W z eS eI tB bx g c vs E M) (hb : Below W.heap.size W W') : FsSt P W' z eS eI tB bx g c vs E M :=
  ⟨h.row.later hb, h.map.later hb, (hb.block z h.lt).trans h.box⟩
theorem FsSt.chg (h : FsSt P W z eS eI tB bx g c vs E M) (hc : Chg 0 z W W') : FsSt P W' z eS eI tB bx g c vs E M :=
  ⟨h.row.chg hc (by omega), h.map.keep (hc.block (z + 1) h.map.lt (.inr (by omega))), (hc.block z h.lt (.inr (Nat.le_refl _))).trans h.box⟩
theorem FsSt.store (h : FsSt P W z eS eI tB bx g c vs E M) (hg : W.grownBy W' (some (z + 1))) {L : List Int} {O : Nat} (hm : MpO P eI tB W' (z + 1) (M.length + 1) (fun j => if j = O then some true else seenF M j)) : FsSt P W' z eS eI tB bx g c vs E (M ++ [(L, O)]) := by
  have h1 := h.glo
  refine ⟨h.row.grown hg (.inl rfl) (by omega), ?_, (hg.block z h.lt (by simp)).trans h.box⟩
  rw [seenF_snoc (L := L)] at hm
  rw [List.length_append]; exact hm
theorem fs_push (h : FsSt P W z eS eI tB bx g c vs E M) {v : Value} {L : List Int} (O' : Nat) {g' c' : Nat} (he : RwE true W (z + 2) eI g (z + 1) (z + 1) v L) (o1 : Obj)
    (own5 : W'.ownsRow (z + 2) eS 1 (.slice (some ⟨g', 0, none⟩) (E.length + 1) c') (E.length + 1) (vs ++ [v])) (hg5 : (W.alloc o1).grownBy W' (some g)) (hat5 : g = g' ∨ g' = W.heap.size + 1) (hlt5 : g' < W'.heap.size) :
    FsSt P W' z eS eI tB bx g' c' (vs ++ [v]) (E ++ [(L, O')]) M ∧
    ∀ own u M', RwE own W (z + 2) eI g (z + 1) (z + 1) u M' → RwE own W' (z + 2) eI g' (z + 1) (z + 1) u M' := by
  have hA : Below W.heap.size W (W.alloc o1) := (Below.refl _ _).alloc (Nat.le_refl _) o1
  have h1 := h.later hA
  have z0 : (W.alloc o1).heap.size = W.heap.size + 1 := by simp
  have hat5' : g = g' ∨ (W.alloc o1).heap.size ≤ g' := by
    rcases hat5 with h | h
    · exact .inl h
    · exact .inr (by omega)
  have gl := h.glo
  have ml := h.map.lt
  obtain ⟨R2, -, -⟩ := h1.row.push (L := L) (he.later hA) (by omega) (by omega) (by omega) (by omega) (by simpa using own5) hg5 hat5' hlt5
  have e1 : lisE (E ++ [((L, O') : En)]) = lisE E ++ [L] := by simp [lisE]
  exact ⟨⟨by rw [e1]; exact R2, h1.map.kept hg5 (by simp; omega), (hg5.block z h1.lt (by simp; omega)).trans h1.box⟩, fun own u M' hu => (hu.later hA).move hg5 hat5'⟩
theorem fs_start {w2 : World} {o : Nat} (hm : MpO P eI tB w2 (z + 1) 1 (fun j => if j = 0 then some true else none)) (hb : w2.heap[z]? = some bx) :
    FsSt P ((w2.alloc (.cells #[] eI)).alloc (.cells #[.slice (some ⟨w2.heap.size, 0, none⟩) 0 0] eS)) z eS eI tB bx (w2.heap.size + 1) 1 [.slice (some ⟨w2.heap.size, 0, none⟩) 0 0] [(([], 0) : En)] [(([], 0) : En)] := by
  obtain ⟨W, hW⟩ : ∃ W, W = ((w2.alloc (.cells #[] eI)).alloc (.cells #[.slice (some ⟨w2.heap.size, 0, none⟩) 0 0] eS)) := ⟨_, rfl⟩
  have hbl : Below w2.heap.size w2 W := by rw [hW]; exact (((Below.refl _ _).alloc (by simp) _).alloc (by simp) _)
  have hz : W.heap.size = w2.heap.size + 2 := by rw [hW]; simp
  have ml := hm.lt
  have h0 : W.heap[w2.heap.size]? = some (.cells #[] eI) := by
    rw [hW]
    show (Array.push (Array.push w2.heap _) _)[w2.heap.size]? = _
    rw [Array.getElem?_push_lt (by simp), Array.getElem_push_eq]
  have h1 : W.heap[w2.heap.size + 1]? = some (.cells #[.slice (some ⟨w2.heap.size, 0, none⟩) 0 0] eS) := by
    rw [hW]
    show (Array.push (Array.push w2.heap _) _)[w2.heap.size + 1]? = _
    have : w2.heap.size + 1 = (Array.push w2.heap (.cells #[] eI)).size := by simp
    rw [this, Array.getElem?_push_size]
  rw [← hW]
  have e0 : seenF [(([], 0) : En)] = fun j => if j = 0 then some true else none := by
    funext j; unfold seenF
    by_cases h : j = 0
    · subst h; simp
    · have h' : ¬ 0 = j := fun e => h e.symm
      simp [h, h']
  refine ⟨⟨own_lit1 h1 (by omega), fun i hi => ?_, by omega⟩, by rw [e0]; exact hm.later hbl, (hbl.block z (by omega)).trans hb⟩
  have : i = 0 := by simpa using hi
  subst this
  refine ⟨⟨some ⟨w2.heap.size, 0, none⟩, 0, rfl, fun k hk => by simp [lisE] at hk⟩, fun b hbb hp => ?_, fun _ => ?_⟩
  · have : w2.heap.size = b := by simpa [Value.ownBlock] using hbb
    omega
  · refine Own.of ⟨rfl, .inr ⟨w2.heap.size, 0, #[], rfl, by omega, h0, Nat.le_refl _, by unfold maxLen; omega, rfl, rfl⟩⟩ |>.mono (Nat.le_refl _) (by omega)
theorem FsSt.cells (h : FsSt P W z eS eI tB bx g c vs E M) {v0 v1 v2 : Value} {t : TypeId} (hb : bx = .cells #[v0, v1, v2] t) : W.cell? ⟨z, 0, none⟩ = some v0 ∧ W.cell? ⟨z, 1, none⟩ = some v1 ∧ W.cell? ⟨z, 2, none⟩ = some v2 := by
  have := h.box
  rw [hb] at this
  exact ⟨by simp [World.cell?, this], by simp [World.cell?, this], by simp [World.cell?, this]⟩
end Go.KD

namespace Go.Proofs.Ytcjcgcgcloanpaa
open Go.RowKit Go.KD Go.Maps
attribute [local go_sem] later_cell later_frozen
theorem zeroBool (w : World) : (zeroValue 4).run Try.prog w = .ok (.bool false) w := by kernel_rfl
set_option maxRecDepth 100000 in
set_option maxHeartbeats 16000000 in
theorem first_c (F : FuncId) (fn : Func) (hf1 : Try.prog.funcs[F]? = some fn) (hf2 : (fn.name == "runtime.NumGoroutine") = false) (hf3 : fn.body.isNone = false) (caps : Array Value) (p : Nat → Bool) (J : Nat → World → Prop) (v : Value) (m : Mz) (w : World) (hg : goodB m = true)
    (hJ0 : J 0 w) (hJm : ∀ i W, J i W → MzAt W v m) (hJs : ∀ i W W', J i W → Below w.heap.size W W' → J i W')
    (hJc : ∀ i W O, J i W → w.heap.size ≤ W.heap.size → (∃ L, Opn m L O) → Calls Try.prog F (#[.int .i64 (O : Nat)] ++ caps) W fun e W' => e = .returned (.bool (p O)) ∧ J (i + 1) W' ∧ Chg 0 w.heap.size W W') :
    Calls Try.prog 97 #[v, .func (.func F) #[] caps] w fun e w' =>
    ∃ r i, e = .returned (.tuple #[r, .bool (fstE (srF m [([], 0)]) p).isSome]) ∧ J i w' ∧ (fstE (srF m [([], 0)]) p = none → i = (srF m [([], 0)]).length) ∧ w.heap.size ≤ w'.heap.size ∧ Own w.heap.size w'.heap.size w' 3 1 r ((fstE (srF m [([], 0)]) p).getD []).length (ints ((fstE (srF m [([], 0)]) p).getD [])) := by
  have hM := hJm 0 w hJ0
  obtain ⟨⟨ad, cd, ak, ck, rfl, hd, hk'⟩, nd, nk⟩ := hM
  obtain ⟨i0, ji, jz0, jz1, jz2⟩ := info_parts infoI
  obtain ⟨s0, si, sz0, sz1, sz2⟩ := info_parts infoS
  have OK := Lib.hid (good_ok hg)
  have HGD := Lib.hid hg
  have hng : m.doors.length ≤ 30 := OK.out.nd
  obtain ⟨E0, hE0⟩ : ∃ E0 : List En, E0 = [([], 0)] := ⟨_, rfl⟩
  have HSO : Hid (∀ i, SrOk m (srE m E0 i)) := by rw [hE0]; exact srE_ok (sr_one m (opn_nil m))
  have HE0 := Lib.hid hE0
  obtain ⟨bx, hbx⟩ : ∃ bx, bx = Obj.cells #[.int .i64 m.size, .slice ad m.doors.length cd, .slice ak m.keys.length ck] 27 := ⟨_, rfl⟩
  have HBX := Lib.hid hbx
  have HJ0 := Lib.hid hJ0
  have HJM := Lib.hid hJm
  have HJS := Lib.hid hJs
  have HJC := Lib.hid hJc
  have hcf := run_callFunc hf1 hf2 hf3
  have HMM : Hid (MpO Try.prog 3 4 ((w.alloc (.cells #[.int .i64 m.size, .slice ad m.doors.length cd, .slice ak m.keys.length ck] 27)).alloc (.map #[] 0)) (w.heap.size + 1) 0 (fun _ => none)) := by
    show MpO _ _ _ _ _ _ _
    have := MpO.made (w.alloc (.cells #[.int .i64 m.size, .slice ad m.doors.length cd, .slice ak m.keys.length ck] 27)) Try.prog 3 4
    simpa using this
  have hmm := @run_makeMap Try.prog
  have hg0 : Hid (∀ w2, World.grownBy ((w.alloc (.cells #[.int .i64 m.size, .slice ad m.doors.length cd, .slice ak m.keys.length ck] 27)).alloc (.map #[] 0)) w2 (some (w.heap.size + 1)) → w2.heap[w.heap.size]? = some bx ∧ Below w.heap.size w w2 ∧ w.heap.size + 2 ≤ w2.heap.size) := by
    intro w2 h
    have hz := h.size
    have e := h.block w.heap.size (by simp; omega) (by simp)
    refine ⟨e.trans ?_, Below.grown (((Below.refl _ _).alloc (Nat.le_refl _) _).alloc (by simp) _) h (by simp; omega) (fun b hb => by cases hb; omega), by simpa using hz⟩
    rw [hbx]
    show (Array.push (Array.push w.heap _) _)[w.heap.size]? = _
    rw [Array.getElem?_push_lt (by simp), Array.getElem_push_eq]
  rw [← hE0]
  clear hg hE0 hJ0 hJm hJs hJc hf1 hf2 hf3 hbx
  go_enter Try.func97, Try.ntmps97
  go_wp2_with (refine wpList_store_mpo _ rfl _ _ _ 62 (.inr rfl) 3 4 Try.underlying3 Try.underlying62 Try.underlying4 (w.heap.size + 1) 0 _ rfl HMM.out (by unfold maxLen; omega) 0 true rfl rfl (by omega) ?_; intro w2 hm2 hg2)
  have HX2 := hg0.out w2 hg2
  have HST := Lib.hid (fs_start (o := 0) (eS := 25) hm2 HX2.1)
  have HBE := Lib.hid HX2.2.1
  have hz2 := HX2.2.2
  clear hm2 hg2 HX2 hg0 HMM
  rw [← HE0.out] at HST
  go_loopw [8, 7] (fun i t wr => ∃ (k g c : Nat) (vs : List Value), i = .int .i64 k ∧ t = .slice (some ⟨g, 0, none⟩) (srE m E0 k).length c ∧ k ≤ (srE m E0 k).length ∧ k ≤ 1024 ∧ w.heap.size ≤ wr.heap.size ∧ Hid (FsSt Try.prog wr w.heap.size 25 3 4 bx g c vs (srE m E0 k) (srE m E0 k)) ∧ Hid (J k wr) ∧ Hid (∀ j, j < k → p ((srE m E0 k)[j]!).2 = false)) (fun i _ _ => 1024 - (intOf i).toNat)
  case atStart =>
    refine ⟨0, _, _, _, rfl, ?_, Nat.zero_le _, by omega, ?_, HST, HJS.out 0 _ _ HJ0.out ?_, fun j hj => by omega⟩
    · show _ = Value.slice _ E0.length _
      rw [HE0.out]; rfl
    · simp; omega
    · exact Below.alloc (Below.alloc HBE.out (by omega) _) (by simp; omega) _
  case round =>
    clear HST HBE
    obtain ⟨wo, rfl⟩ : ∃ wo : World, wo = wr := ⟨_, rfl⟩
    obtain ⟨k, g, c, vs, rfl, rfl, hk, hk2, hzo, HS, HJ, HP⟩ := hrel
    obtain ⟨E, hE⟩ : ∃ E, E = srE m E0 k := ⟨_, rfl⟩
    rw [← hE] at hk HS HP ⊢
    have HOE : Hid (SrOk m E) := by rw [hE]; exact HSO.out k
    have hle : E.length ≤ 1024 := HOE.out.le HGD.out
    have HE := Lib.hid hE
    clear hE
    by_cases hlt : k < E.length
    · have hkI : (k : Int) < (E.length : Int) := by omega
      have HNX : Hid (srE m E0 (k + 1) = expE m E k) := by show _ = _; rw [srE_next (by rw [← HE.out]; exact hlt), ← HE.out]
      obtain ⟨Lk, hLk⟩ : ∃ Lk, Lk = (E[k]!).1 := ⟨_, rfl⟩
      obtain ⟨Ok, hOk⟩ : ∃ Ok, Ok = (E[k]!).2 := ⟨_, rfl⟩
      have HOPk : Hid (Opn m Lk Ok) := by
        show Opn m Lk Ok
        rw [hLk, hOk]
        exact HOE.out.all E[k]! (by rw [getElem!_pos E k hlt]; exact List.getElem_mem hlt)
      have HLK := Lib.hid hLk
      have HOK2 := Lib.hid hOk
      obtain ⟨nxt, hnxt⟩ : ∃ nxt, nxt = nextL m Ok Lk := ⟨_, rfl⟩
      have HNXT := Lib.hid hnxt
      have hnl : nxt.length ≤ 30 := by rw [hnxt]; exact Nat.le_trans (nextL_len m Ok Lk) hng
      have hLk30 := opn_len OK.out HOPk.out
      have he := HS.out.row.each k (by simpa using hlt)
      rw [lisE_at hlt, ← hLk] at he
      obtain ⟨aK, cK, hvk, hik⟩ := he.ic
      have ek := HS.out.row.cell (i := k) (by simpa using hlt)
      rw [hvk] at ek
      have hgz := HS.out.row.gs
      have HIK := Lib.hid hik
      obtain ⟨q0, q1, q2⟩ := HS.out.cells HBX.out
      have HMZ := Lib.hid (HJM.out k wo HJ.out)
      have hOk30 : Ok < 1073741824 := bits_lt30 fun i hi => Nat.lt_of_lt_of_le ((opn_ok OK.out HOPk.out).lt i hi) hng
      have hzlt := HS.out.lt
      have HS2 : Hid (∀ W, Below wo.heap.size wo W → W.cell? ⟨w.heap.size, 0, none⟩ = some (.int .i64 m.size) ∧ W.cell? ⟨w.heap.size, 1, none⟩ = some (.slice ad m.doors.length cd) ∧ W.cell? ⟨w.heap.size, 2, none⟩ = some (.slice ak m.keys.length ck) ∧ W.cell? ⟨g, k, none⟩ = some (.slice aK Lk.length cK)) := fun W hW => ⟨(hW.cell (p := ⟨w.heap.size, 0, none⟩) hzlt).trans q0, (hW.cell (p := ⟨w.heap.size, 1, none⟩) hzlt).trans q1, (hW.cell (p := ⟨w.heap.size, 2, none⟩) hzlt).trans q2, (hW.cell (p := ⟨g, k, none⟩) hgz).trans ek⟩
      clear hLk hOk hnxt he hik
      go_upto_region 5 with fail
      go_cut [9] (fun s9 wx => s9 = .int .i64 (Ok : Nat) ∧ Hid (Below wo.heap.size wo wx))
      case first =>
        go_region_held3 (fun W => W.cell? ⟨w.heap.size, 0, none⟩ = some (.int .i64 m.size) ∧ W.cell? ⟨w.heap.size, 1, none⟩ = some (.slice ad m.doors.length cd) ∧ W.cell? ⟨w.heap.size, 2, none⟩ = some (.slice ak m.keys.length ck) ∧ W.cell? ⟨g, k, none⟩ = some (.slice aK Lk.length cK))
          (exact HS2.out _ (by repeat (first | exact Below.refl _ _ | exact HB8.out | apply Below.drew | apply below_drewN | (refine Below.setCell ?_ (by first | omega | (simp; done) | (simp; omega) | (dsimp only; omega)) _) | (refine Below.alloc ?_ (by first | omega | (simp; done) | (simp; omega) | (dsimp only; omega)) _))))
          ((go_at_call 73; refine (opening_c _ m _ _ Lk _ (HMZ.out.later (by repeat (first | exact Below.refl _ _ | apply Below.drew | apply below_drewN | (refine Below.setCell ?_ (by first | omega | (simp; done) | (simp; omega) | (dsimp only; omega)) _) | (refine Below.alloc ?_ (by first | omega | (simp; done) | (simp; omega) | (dsimp only; omega)) _)))) OK.out (HIK.out.later (by repeat (first | exact Below.refl _ _ | apply Below.drew | apply below_drewN | (refine Below.setCell ?_ (by first | omega | (simp; done) | (simp; omega) | (dsimp only; omega)) _) | (refine Below.alloc ?_ (by first | omega | (simp; done) | (simp; omega) | (dsimp only; omega)) _)))) (by omega)).mono ?_; rintro e w8 ⟨rfl, hb8⟩; have HB8 : Hid (Below wo.heap.size wo w8) := (Below.refl _ _).drew.trans hb8; clear hb8))
        all_goals
          go_wp2_with fail
          go_meet
          case rel => exact ⟨by rw [opn_N HOPk.out], HB8⟩
      case rest =>
        obtain ⟨rfl, HBC⟩ := hcut
        have hzc := HBC.out.size
        have HJC2 := Lib.hid (HJS.out k _ _ HJ.out (HBC.out.mono hzo))
        have HSC := Lib.hid (HS.out.later HBC.out)
        clear HS HJ HMZ HS2 q0 q1 q2 ek HIK
        go_wp2_with fail
        refine (HJC.out k _ Ok HJC2.out (by omega) ⟨Lk, HOPk.out⟩).mono ?_
        rintro e w5 ⟨rfl, hj5, hc5⟩
        have HS5 := Lib.hid (HSC.out.chg hc5)
        have HJ5 := Lib.hid hj5
        have hz5 := hc5.size
        obtain ⟨q0, q1, q2⟩ := HS5.out.cells HBX.out
        have ek := HS5.out.row.cell (i := k) (by simpa using hlt)
        rw [hvk] at ek
        have hz5g := HS5.out.row.gs
        have hg5lo := HS5.out.glo
        clear hj5 hc5 HSC HJC2 HBC
        cases hp : p Ok
        case true =>
          have HF : Hid (fstE (srF m E0) p = some Lk) := by
            have hpre : E <+: srF m E0 := by rw [HE.out]; exact srE_preF m E0 hk2
            show _ = _
            rw [fstE_at (i := k) (Nat.lt_of_lt_of_le hlt hpre.length_le) (fun j hj => by rw [pre_at hpre (by omega)]; exact HP.out j hj) (by rw [pre_at hpre hlt, ← HOK2.out]; exact hp), pre_at hpre hlt, ← HLK.out]
          have HOWN : Hid (Own w.heap.size w5.heap.size w5 3 1 (.slice aK Lk.length cK) Lk.length (ints Lk)) := by
            have := (HS5.out.row.each k (by simpa using hlt)).ow rfl
            rw [lisE_at hlt, ← HLK.out, hvk] at this
            exact this.mono (by omega) (Nat.le_refl _)
          clear hp
          go_wp2
          refine bodyPost_ret (v := .tuple #[.slice aK Lk.length cK, .bool true]) (by simp [results, Try.results97, go_sem]) rfl ?_
          refine ⟨_, k + 1, by rw [HF.out]; rfl, HJ5.out, fun h => (by rw [HF.out] at h; cases h), by omega, by rw [HF.out]; exact HOWN.out⟩
        case false =>
          have HPK : Hid (∀ j, j < k + 1 → p ((srE m E0 (k + 1))[j]!).2 = false) := by
            intro j hj
            have hpre : E <+: srE m E0 (k + 1) := by rw [HE.out]; exact srE_pre1 m E0 k
            rw [pre_at hpre (by omega)]
            rcases Nat.lt_or_ge j k with h | h
            · exact HP.out j h
            · obtain rfl : j = k := by omega
              rw [← HOK2.out]; exact hp
          clear hp HP
          go_wp2_with fail
          refine (nextLocks_c _ m Ok Lk _ (HJM.out _ _ HJ5.out) OK.out (opn_ok OK.out HOPk.out)).mono ?_
          rintro e w8 ⟨u8, rfl, ho8, hb8⟩
          rw [← HNXT.out] at ho8
          obtain ⟨a8, c8, rfl⟩ := own_slice ho8.row
          have HS8 := Lib.hid (HS5.out.later hb8)
          have hz8 := hb8.size
          have HJ8 := Lib.hid (HJS.out (k + 1) _ _ HJ5.out (hb8.mono (by omega)))
          have HN8 : Hid (RwE false w8 (w.heap.size + 2) 3 g (w.heap.size + 1) (w.heap.size + 1) (.slice a8 nxt.length c8) nxt) := by
            refine ⟨⟨a8, c8, rfl, ic_of ho8⟩, fun b hb _ => ?_, fun h => by cases h⟩
            obtain ⟨h1, h2⟩ := ho8.blocks b hb
            have h3 := HS5.out.map.lt
            omega
          clear HS5 HJ5 ho8 hb8 q0 q1 q2 ek hz5g hg5lo hgz hvk
          go_wp2
          go_loopw [44, 7] (fun jv t wr => ∃ (j g c : Nat) (vs : List Value), jv = .int .i64 j ∧ t = .slice (some ⟨g, 0, none⟩) (expJ m E k j).length c ∧ j ≤ nxt.length ∧ w.heap.size ≤ wr.heap.size ∧ Hid (FsSt Try.prog wr w.heap.size 25 3 4 bx g c vs (expJ m E k j) (expJ m E k j)) ∧ Hid (J (k + 1) wr) ∧ Hid (RwE false wr (w.heap.size + 2) 3 g (w.heap.size + 1) (w.heap.size + 1) (.slice a8 nxt.length c8) nxt)) (fun jv _ _ => nxt.length - (intOf jv).toNat)
          case atStart => exact ⟨0, g, c, vs, rfl, rfl, Nat.zero_le _, by omega, HS8, HJ8, HN8⟩
          case round =>
            clear HS8 HJ8 HN8 hz8 hz5 hzc
            obtain ⟨wi, rfl⟩ : ∃ wi : World, wi = wr := ⟨_, rfl⟩
            obtain ⟨j, g, c, vs, rfl, rfl, hj, hzi, HS, HJ, HN⟩ := hrel
            have hjE : j ≤ (nextL m (E[k]!).2 (E[k]!).1).length := by rw [← HOK2.out, ← HLK.out, ← HNXT.out]; exact hj
            have HOJ : Hid (SrOk m (expJ m E k j)) := expJ_ok HOE.out hlt j hjE
            obtain ⟨F, hF⟩ : ∃ F, F = expJ m E k j := ⟨_, rfl⟩
            have hpre : E <+: F := by rw [hF]; exact expJ_pre m E k j
            have hFk : F[k]! = E[k]! := pre_at hpre hlt
            have hFl : k < F.length := Nat.lt_of_lt_of_le hlt hpre.length_le
            rw [← hF] at HS HOJ ⊢
            have HF := Lib.hid hF
            have hFle : F.length ≤ 1024 := HOJ.out.le HGD.out
            have hgz := HS.out.row.gs
            have hglo := HS.out.glo
            clear hF
            by_cases hlt2 : j < nxt.length
            · have hjI : (j : Int) < (nxt.length : Int) := by omega
              obtain ⟨a8', c8', h8, hi8⟩ := HN.out.ic
              cases h8
              obtain ⟨b8, off8, xI, ha8, HX, hbs8, e8⟩ := hi8.at j hlt2
              subst ha8
              have hh : hasI (nextL m Ok Lk) xI = true := by rw [hasI_iff, ← HNXT.out, ← HX.out, getElem!_pos nxt j hlt2]; exact List.getElem_mem hlt2
              obtain ⟨x, rfl, hxd⟩ := next_nat hh
              obtain ⟨p2, HP2, ep, hp2⟩ := shl_at30 x (by omega)
              have hx30 : (x : Int) < 30 := by omega
              have eo : bits .or .i64 (Ok : Int) (p2 : Int) = ((Ok ||| p2 : Nat) : Int) := i64_or Ok p2 (by omega) (by omega)
              have hO2 : Ok ||| p2 < 1073741824 := Nat.or_lt_two_pow (n := 30) hOk30 hp2
              have HSET : Hid (setN Ok (x : Int) = Ok ||| p2) := by show _ = _; rw [HP2.out]; simp [setN]
              have HJS2 : Hid (expJ m E k (j + 1) = addE Lk Ok F x) := by
                show _ = _
                rw [expJ_step m E k (by rw [← HOK2.out, ← HLK.out, ← HNXT.out]; exact hlt2), ← HF.out, ← HLK.out, ← HOK2.out, ← HNXT.out, HX.out]
              have he := HS.out.row.each k (by simpa using hFl)
              rw [lisE_at hFl, hFk, ← HLK.out] at he
              obtain ⟨aK, cK, hvk, hik⟩ := he.ic
              have HVK := Lib.hid hvk
              have HFK := Lib.hid hFk
              have hkF : (k : Int) < (F.length : Int) := by omega
              have hLn : (Lk ++ [(x : Int)]).length = Lk.length + 1 := by simp
              have HLN := Lib.hid hLn
              clear hh he hvk hik hi8 hpre hFk hLn
              cases hany : F.any (fun e => e.2 == Ok ||| p2)
              case true =>
                have HJN : Hid (expJ m E k (j + 1) = F) := by show _ = _; rw [HJS2.out]; exact addE_no (by rw [HSET.out]; exact hany)
                go_wp2_with (at_lookup; refine wpList_lookup_mpo _ rfl _ _ 62 rfl 3 4 Try.underlying3 Try.underlying62 Try.underlying4 (zeroBool _) (w.heap.size + 1) F.length (seenF F) rfl HS.out.map (Ok ||| p2) rfl (by omega) ?_; rw [seenF_get, hany])
                go_roundw
                case rel => exact ⟨j + 1, g, c, vs, by go_num, by rw [HJN.out], by omega, hzi, by rw [HJN.out]; exact HS, HJ, HN⟩
                case measure => simp [intOf]; omega
              case false =>
                have HJN : Hid (expJ m E k (j + 1) = F ++ [(Lk ++ [(x : Int)], Ok ||| p2)]) := by show _ = _; rw [HJS2.out, addE_yes (by rw [HSET.out]; exact hany), HSET.out]
                have HMO := Lib.hid HS.out.map
                go_upto_region 13 with (at_lookup; refine wpList_lookup_mpo _ rfl _ _ 62 rfl 3 4 Try.underlying3 Try.underlying62 Try.underlying4 (zeroBool _) (w.heap.size + 1) F.length (seenF F) rfl HMO.out (Ok ||| p2) rfl (by omega) ?_; rw [seenF_get, hany])
                go_upto_region 14 with (at_mapUpdate; refine wpList_store_mpo _ rfl _ _ _ 62 (.inl rfl) 3 4 Try.underlying3 Try.underlying62 Try.underlying4 (w.heap.size + 1) F.length _ rfl HMO.out (by unfold maxLen; omega) (Ok ||| p2) true rfl rfl (by omega) ?_; intro w6 hm6 hg6)
                have HS6 := Lib.hid (HS.out.store (L := Lk ++ [(x : Int)]) hg6 hm6)
                have hz6 := hg6.size
                have HN6 := Lib.hid (HN.out.grown hg6 (.inr (.inl rfl)))
                have HJ6 := Lib.hid (HJS.out (k + 1) _ w6 HJ.out (Below.grown (Below.refl _ _) hg6 hzi (fun b hb => by cases hb; omega)))
                have ek := HS6.out.row.cell (i := k) (by simpa using hFl)
                rw [HVK.out] at ek
                have HIK : Hid (IC w6 aK Lk) := by
                  have he := HS6.out.row.each k (by simpa using hFl)
                  rw [lisE_at hFl, HFK.out, ← HLK.out, HVK.out] at he
                  obtain ⟨a', c', hv', hi'⟩ := he.ic
                  cases hv'
                  exact hi'
                have hgz6 := HS6.out.row.gs
                have hml6 := HS6.out.map.lt
                have hz6' : w.heap.size ≤ w6.heap.size := by omega
                clear hm6 hg6 HS HJ HN HMO
                go_wp2_with fail
                refine (clone_c _ _ _ Lk _ rfl HIK.out (by omega)).mono ?_
                rintro e w7 ⟨v7, rfl, ho7, hb7⟩
                obtain ⟨a7, c7, rfl⟩ := own_slice ho7
                have HB7 := Lib.hid hb7
                have HO7 := Lib.hid ho7
                have hz7 := hb7.size
                have HR7 : Hid (w7.ownsRow (w.heap.size + 2) 25 1 (.slice (some ⟨g, 0, none⟩) F.length c) F.length vs) := by have := (HS6.out.later hb7).row.row; rw [lisE_len] at this; exact this
                clear ho7 hb7 ek HIK
                go_wp2_with (first
                  | (at_builtin; refine wpList_append_lies _ rfl _ _ 25 rfl w6.heap.size 3 i0 (.int .i64 0) 1 8 Try.underlying25 ji jz0 jz1 jz2 rfl (by decide) (.slice a7 Lk.length c7) _ _ rfl (HO7.out.alloc _) ⟨w7.heap.size, 0, none⟩ 1 1 [.int .i64 (x : Int)] rfl rfl ?_ ?_ (by omega) ?_ ?_ ?_ (w7.heap.size + 1) ?_ ?_; (exact news_one (by simp [go_sem])); (simp [Value.oneCell']); (unfold maxLen; omega); omega; (simp; omega); (simp); intro gn cn w9 hown9 hgrow9 hat9 hlt9; have HB9 : Hid (Below w6.heap.size w6 w9) := Below.grown (HB7.out.alloc hz7 _) hgrow9 (by simp; omega) (fun b hb => own_block_lo HO7.out hb); have HO9 := Lib.hid hown9; clear hown9 hgrow9 hat9; have hz9 := HB9.out.size; have HR9 : Hid (w9.ownsRow (w.heap.size + 2) 25 1 (.slice (some ⟨g, 0, none⟩) F.length c) F.length vs) := (by have := (HS6.out.later HB9.out).row.row; rw [lisE_len] at this; exact this))
                  | (at_builtin; refine wpList_append_lies _ rfl _ _ 71 rfl (w.heap.size + 2) 25 s0 (.slice none 0 0) 1 24 Try.underlying71 si sz0 sz1 sz2 rfl (by decide) (.slice (some ⟨g, 0, none⟩) F.length c) _ _ rfl (HR9.out.alloc _) ⟨w9.heap.size, 0, none⟩ 1 1 [.slice (some ⟨gn, 0, none⟩) (Lk.length + 1) cn] rfl rfl ?_ ?_ (by omega) ?_ ?_ ?_ (w9.heap.size + 1) ?_ ?_; (exact cell_one_new _ _ _); (simp [Value.oneCell']); (unfold maxLen; omega); omega; (simp; omega); (simp); intro g5 c5 w5 hown5 hgrow5 hat5 hlt5))
                have HE9 : Hid (RwE true w9 (w.heap.size + 2) 3 g (w.heap.size + 1) (w.heap.size + 1) (.slice (some ⟨gn, 0, none⟩) (Lk.length + 1) cn) (Lk ++ [(x : Int)])) := by
                  have h1 := HO9.out
                  rw [← ints_snoc] at h1
                  have hlo := own_block_lo h1 (g := gn) rfl
                  refine ⟨⟨_, cn, by rw [HLN.out], ic_of' (Own.of h1) HLN.out.symm⟩, fun b hb _ => ?_, fun _ => ?_⟩
                  · have : gn = b := by simpa [Value.ownBlock] using hb
                    omega
                  · rw [HLN.out]; exact (Own.of h1).mono (by omega) (Nat.le_refl _)
                have HS9 := Lib.hid (HS6.out.later HB9.out)
                have HN9 := Lib.hid (HN6.out.later HB9.out)
                have hat5' : g = g5 ∨ g5 = w9.heap.size + 1 := by
                  rcases hat5 with h | h
                  · exact .inl (by simpa [Value.ownBlock] using h)
                  · exact .inr h
                have HPU := Lib.hid (fs_push HS9.out (Ok ||| p2) HE9.out _ hown5 hgrow5 hat5' hlt5)
                have hz5 := hgrow5.size
                have HJ5 := Lib.hid (HJS.out (k + 1) _ w5 HJ6.out ((HB9.out.mono hz6').trans (Below.grown (Below.alloc (Below.refl _ _) (by omega) _) hgrow5 (by simp; omega) (fun b hb => by have : g = b := (by simpa [Value.ownBlock] using hb); omega))))
                have hz5' : w.heap.size ≤ w5.heap.size := by simp at hz5; omega
                clear hown5 hgrow5 hat5 hat5' hlt5 hz5 HS9 HE9 HO9 HR9 HR7 HO7 HB7
                go_wp2_with fail
                go_roundw
                case rel => exact ⟨j + 1, g5, c5, vs ++ [.slice (some ⟨gn, 0, none⟩) (Lk.length + 1) cn], by go_num, by rw [HJN.out, List.length_append]; rfl, by omega, hz5', by rw [HJN.out]; exact HPU.out.1, HJ5, HPU.out.2 _ _ _ HN9.out⟩
                case measure => simp [intOf]; omega
            · obtain rfl : j = nxt.length := by omega
              have HEND : Hid (F = srE m E0 (k + 1)) := by
                show _ = _
                rw [HNX.out, HF.out]
                unfold expE
                rw [← HOK2.out, ← HLK.out, ← HNXT.out]
              go_wp2
              go_roundw
              case rel => exact ⟨k + 1, g, c, vs, by go_num, by rw [← HEND.out], by rw [← HEND.out]; omega, by omega, hzi, by rw [← HEND.out]; exact HS, HJ, HPK⟩
              case measure => simp [intOf]; omega
    · obtain rfl : k = E.length := by omega
      have HEND : Hid (srF m E0 = E) := by
        show _ = _
        rw [srF_eq (i := E.length) (by omega) (by rw [← HE.out]; exact Nat.le_refl _)]
        exact HE.out.symm
      have HF : Hid (fstE (srF m E0) p = none) := by show _ = _; rw [HEND.out]; exact fstE_none HP.out
      go_wp2
      refine bodyPost_ret (v := .tuple #[.slice none 0 0, .bool false]) (by simp [results, Try.results97, go_sem]) rfl ?_
      exact ⟨_, E.length, by rw [HF.out]; rfl, HJ.out, fun _ => by rw [HEND.out], hzo, by rw [HF.out]; exact ⟨⟨rfl, .inl ⟨rfl, rfl⟩⟩, fun g h => by cases h⟩⟩
end Go.Proofs.Ytcjcgcgcloanpaa
