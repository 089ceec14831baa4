/- A grid of 768 numbers in one block; a queue of pairs. No program is named here. Contract of impl.visits: a search over the visits of works. AreApart: can one not come from a visit to another one. The least numbers of acts to the goal: plain words. Plans, turned levers, visits that are apart: what the law of plans wants. Plain words. -/
import Derived.Test.YtmilpahggceemaaKpFp2
import Derived.Deep.MidRow
import Derived.Deep.WholeRow
import Derived.Test.YtmilpahggceemaaKpFp4
import Derived.Test.YtmilpahggceemaaKpFp5
import Derived.Test.YtmilpahggceemaaKpFp0
import Derived.Deep.DeepCutAuto
import Derived.Deep.RegionHeld3
import Derived.Deep.LoopGhost
set_option linter.unusedVariables false
set_option linter.unusedSimpArgs false
namespace Go.KD
open Go.RowKit
structure GrA (w : World) (g : Nat) (l : List Int) : Prop where
  lt : g < w.heap.size
  len : l.length = 768
  cell : ∀ j, j < 768 → w.cell? ⟨g, j, none⟩ = some (.int .i64 l[j]!)
  fr : ∀ j, j < 768 → w.frozen? ⟨g, j, none⟩ = false
theorem GrA.keep {w w' : World} {g : Nat} {l : List Int} (h : GrA w g l) (hb : w'.heap[g]? = w.heap[g]?) (hs : w.heap.size ≤ w'.heap.size) : GrA w' g l :=
  ⟨Nat.lt_of_lt_of_le h.lt hs, h.len, fun j hj => (World.cell?_of_block (a := ⟨g, j, none⟩) hb).trans (h.cell j hj), fun j hj => (World.frozen?_of_block (a := ⟨g, j, none⟩) hb).trans (h.fr j hj)⟩
theorem GrA.later {w w' : World} {g : Nat} {l : List Int} (h : GrA w g l) (hb : Below w.heap.size w w') : GrA w' g l := h.keep (hb.block g h.lt) hb.size
theorem GrA.grown {w w' : World} {g : Nat} {l : List Int} {row : Option Nat} (h : GrA w g l) (hb : w.grownBy w' row) (hr : row ≠ some g) : GrA w' g l := h.keep (hb.block g h.lt (fun e => hr e.symm)) hb.size
theorem GrA.set {w : World} {g : Nat} {l : List Int} (h : GrA w g l) (i : Nat) (x : Int) : GrA (w.setCell ⟨g, i, none⟩ (.int .i64 x)) g (l.set i x) := by
  refine ⟨by simpa using h.lt, by rw [List.length_set]; exact h.len, fun j hj => ?_, fun j hj => ?_⟩
  · have hl : j < l.length := by rw [h.len]; exact hj
    by_cases e : i = j
    · subst e
      rw [World.cell?_setCell_same' _ _ _ (by rw [h.cell i hj]; rfl), getElem!_pos _ i (by simpa using hl), List.getElem_set_self]
    · rw [World.cell?_setCell_other _ _ _ _ (by simp [e]), h.cell j hj, getElem!_pos l j hl, getElem!_pos _ j (by simpa using hl), List.getElem_set_ne e]
  · simpa using h.fr j hj
theorem GrA.new (w : World) (t : TypeId) {l : List Int} (h : l.length = 768) : GrA (w.alloc (.cells (ints l).toArray t)) w.heap.size l := by
  refine ⟨by simp, h, fun j hj => ?_, fun j hj => World.frozen?_alloc_new w _ _ j⟩
  rw [World.cell?_alloc_new w _ _ j, List.getElem?_toArray, ints, List.getElem?_map, List.getElem?_eq_getElem (by omega), getElem!_pos l j (by omega)]
  rfl
theorem GrA.there {w : World} {g : Nat} {l : List Int} (h : GrA w g l) : w.there g 0 768 := fun j hj => by
  rw [Nat.zero_add]; exact ⟨by rw [h.cell j hj]; rfl, h.fr j hj⟩
theorem GrA.range {w : World} {g : Nat} {l : List Int} (h : GrA w g l) : w.rangeAt g 0 (ints l) := fun j v hv => by
  have hj : j < l.length := by
    rcases Nat.lt_or_ge j l.length with h | h
    · exact h
    · rw [List.getElem?_eq_none (by simpa using h)] at hv; cases hv
  rw [Nat.zero_add, h.cell j (by have := h.len; omega), ← hv, ints, List.getElem?_map, List.getElem?_eq_getElem hj, getElem!_pos l j hj]
  rfl
theorem GrA.of {w : World} {g : Nat} {l : List Int} (hl : l.length = 768) (ht : w.there g 0 768) (hlt : g < w.heap.size) : GrA (w.setCells g 0 (ints l)) g l := by
  refine ⟨by rw [size_setCells]; exact hlt, hl, fun j hj => ?_, fun j hj => ?_⟩
  · have := World.cell?_setCells_in g (ints l) 0 w (fun j hj => (ht j (by rw [length_ints, hl] at hj; exact hj)).1) j (by rw [length_ints, hl]; exact hj)
    rw [Nat.zero_add] at this
    rw [this]
    simp only [ints, List.getElem_map]
    rw [getElem!_pos l j (by omega)]
  · rw [World.frozen?_setCells]
    have := (ht j hj).2
    rwa [Nat.zero_add] at this
theorem grown_setCells (b : Nat) : ∀ (vs : List Value) (o : Nat) (w : World), w.grownBy (w.setCells b o vs) (some b)
  | [], _, w => ⟨rfl, rfl, rfl, Nat.le_refl _, fun _ _ _ => rfl⟩
  | v :: r, o, w => (grown_setCell w ⟨b, o, none⟩ v).trans (grown_setCells b r (o + 1) _)
theorem ints_oneG (l : List Int) : (ints l).toArray.all (·.oneCell') = true := all_oneCell_toArray fun v hv => by
  simp only [ints, List.mem_map] at hv
  obtain ⟨x, _, rfl⟩ := hv
  rfl
/-- A queue of pairs: a slice that is cut at its front and appended to. -/
structure Q2 (w : World) (g off cap : Nat) (l : List (Int × Int)) : Prop where
  gs : g < w.heap.size
  lc : l.length ≤ cap
  cm : cap ≤ maxLen
  a : ∀ j, j < l.length → w.cell? ⟨g, off + j * 2, none⟩ = some (.int .i64 (l[j]!).1)
  b : ∀ j, j < l.length → w.cell? ⟨g, off + (j * 2 + 1), none⟩ = some (.int .i64 (l[j]!).2)
  room : ∀ j, j < cap * 2 → (w.cell? ⟨g, off + j, none⟩).isSome = true ∧ w.frozen? ⟨g, off + j, none⟩ = false
theorem Q2.keep {w w' : World} {g off cap : Nat} {l : List (Int × Int)} (h : Q2 w g off cap l) (hb : w'.heap[g]? = w.heap[g]?) (hs : w.heap.size ≤ w'.heap.size) : Q2 w' g off cap l :=
  ⟨Nat.lt_of_lt_of_le h.gs hs, h.lc, h.cm, fun j hj => (World.cell?_of_block (a := ⟨g, _, none⟩) hb).trans (h.a j hj), fun j hj => (World.cell?_of_block (a := ⟨g, _, none⟩) hb).trans (h.b j hj), fun j hj => by
    rw [World.cell?_of_block (a := ⟨g, off + j, none⟩) hb, World.frozen?_of_block (a := ⟨g, off + j, none⟩) hb]; exact h.room j hj⟩
theorem Q2.later {w w' : World} {g off cap : Nat} {l : List (Int × Int)} (h : Q2 w g off cap l) (hb : Below w.heap.size w w') : Q2 w' g off cap l := h.keep (hb.block g h.gs) hb.size
theorem Q2.grown {w w' : World} {g off cap : Nat} {l : List (Int × Int)} {row : Option Nat} (h : Q2 w g off cap l) (hb : w.grownBy w' row) (hr : row ≠ some g) : Q2 w' g off cap l := h.keep (hb.block g h.gs (fun e => hr e.symm)) hb.size
theorem Q2.tail {w : World} {g off cap : Nat} {x : Int × Int} {l : List (Int × Int)} (h : Q2 w g off cap (x :: l)) (hc : 2 ≤ cap) : Q2 w g (off + 2) (cap - 1) l := by
  have hl := h.lc
  have hm := h.cm
  simp only [List.length_cons] at hl
  refine ⟨h.gs, by omega, by omega, fun j hj => ?_, fun j hj => ?_, fun j hj => ?_⟩
  · have := h.a (j + 1) (by simp; omega)
    rw [show off + (j + 1) * 2 = off + 2 + j * 2 by omega] at this
    simpa using this
  · have := h.b (j + 1) (by simp; omega)
    rw [show off + ((j + 1) * 2 + 1) = off + 2 + (j * 2 + 1) by omega] at this
    simpa using this
  · have := h.room (j + 2) (by omega)
    rwa [show off + (j + 2) = off + 2 + j by omega] at this
theorem Q2.last {w : World} {g off : Nat} {x : Int × Int} {l : List (Int × Int)} (h : Q2 w g off 1 (x :: l)) : Q2 w g off 0 l := by
  have hl := h.lc
  simp only [List.length_cons] at hl
  have h0 : l = [] := List.length_eq_zero_iff.1 (by omega)
  subst h0
  exact ⟨h.gs, Nat.le_refl _, by unfold maxLen; omega, fun j hj => by simp at hj, fun j hj => by simp at hj, fun j hj => by omega⟩
theorem get_snoc2 {l : List (Int × Int)} {z : Int × Int} {j : Nat} : (l ++ [z])[j]! = if j < l.length then l[j]! else if j = l.length then z else (0, 0) := by
  by_cases h : j < l.length
  · rw [if_pos h, getElem!_def, getElem!_def, List.getElem?_append_left h]
  · rw [if_neg h]
    by_cases e : j = l.length
    · subst e; rw [if_pos rfl, getElem!_def]; simp
    · rw [if_neg e, getElem!_def, List.getElem?_eq_none (by simp; omega)]; rfl
def flat2 (l : List (Int × Int)) : List Value := l.flatMap fun p => [.int .i64 p.1, .int .i64 p.2]
theorem flat2_len (l : List (Int × Int)) : (flat2 l).length = l.length * 2 := by
  induction l with
  | nil => rfl
  | cons x l ih => simp only [flat2, List.flatMap_cons, List.length_append, List.length_cons, List.length_nil] at ih ⊢; omega
theorem flat2_get (l : List (Int × Int)) : ∀ j, j < l.length → (flat2 l)[j * 2]? = some (.int .i64 (l[j]!).1) ∧ (flat2 l)[j * 2 + 1]? = some (.int .i64 (l[j]!).2) := by
  induction l with
  | nil => intro j hj; simp at hj
  | cons x l ih =>
    intro j hj
    cases j with
    | zero => exact ⟨rfl, rfl⟩
    | succ j =>
      obtain ⟨h1, h2⟩ := ih j (by simpa using hj)
      have e : flat2 (x :: l) = [.int .i64 x.1, .int .i64 x.2] ++ flat2 l := rfl
      rw [e]
      constructor
      · rw [List.getElem?_append_right (by simp; omega)]
        have : (j + 1) * 2 - [Value.int .i64 x.1, Value.int .i64 x.2].length = j * 2 := by simp; omega
        rw [this, h1]; simp
      · rw [List.getElem?_append_right (by simp; omega)]
        have : (j + 1) * 2 + 1 - [Value.int .i64 x.1, Value.int .i64 x.2].length = j * 2 + 1 := by simp; omega
        rw [this, h2]; simp
theorem Q2.flat {w : World} {g off cap : Nat} {l : List (Int × Int)} (h : Q2 w g off cap l) (j : Nat) (u : Value) (hu : (flat2 l)[j]? = some u) : w.cell? ⟨g, off + j, none⟩ = some u := by
  have hj : j < l.length * 2 := by
    rcases Nat.lt_or_ge j (l.length * 2) with h | h
    · exact h
    · rw [List.getElem?_eq_none (by rw [flat2_len]; exact h)] at hu; cases hu
  obtain ⟨h1, h2⟩ := flat2_get l (j / 2) (by omega)
  rcases Nat.mod_two_eq_zero_or_one j with e | e
  · have e2 : j / 2 * 2 = j := by omega
    rw [e2, hu] at h1
    have := h.a (j / 2) (by omega)
    rw [e2] at this
    rw [this, h1]
  · have e2 : j / 2 * 2 + 1 = j := by omega
    rw [e2, hu] at h2
    have := h.b (j / 2) (by omega)
    rw [e2] at this
    rw [this, h2]
theorem run_append_q2 {P : Program} (w : World) (t ty e : TypeId) (i : TypeInfo) (z : Value) (ht : P.underlying t = some (.slice e)) (hi : P.info? e = some i) (hz : i.zero = some z) (hsize : i.size = 2) (hby : i.bytes = 16) (hzs : z.cells.size = 2)
    (g off cap : Nat) (l : List (Int × Int)) (hq : Q2 w g off cap l) (b : Nat) (x y : Int) (c0 : w.cell? ⟨b, 0, none⟩ = some (.int .i64 x)) (c1 : w.cell? ⟨b, 1, none⟩ = some (.int .i64 y)) (hl : l.length + 1 ≤ 1000000) :
    ∃ g' off' cap' w', (Builtin.append_ #[t, t] ty #[.slice (some ⟨g, off, none⟩) l.length cap, .slice (some ⟨b, 0, none⟩) 1 1]).run P w = .ok (.slice (some ⟨g', off', none⟩) (l.length + 1) cap') w' ∧ Q2 w' g' off' cap' (l ++ [(x, y)]) ∧ w.grownBy w' (some g) ∧ (g' = g ∨ g' = w.heap.size) := by
  have hs : Src P i.size t (.slice (some ⟨b, 0, none⟩) 1 1) 1 [.int .i64 x, .int .i64 y] w := by
    rw [hsize]
    refine Src.ofSlice w ht ⟨b, 0, none⟩ 1 1 _ (by rfl) (fun j u hu => ?_) (fun u hu => ?_)
    · rw [add_at rfl, Nat.zero_add]
      rcases j with _ | _ | j
      · have : Value.int .i64 x = u := by simpa using hu
        rw [c0, this]
      · have : Value.int .i64 y = u := by simpa using hu
        rw [c1, this]
      · simp at hu
    · simp only [List.mem_cons, List.not_mem_nil, or_false] at hu
      rcases hu with rfl | rfl <;> rfl
  have hA := hq.a; have hB := hq.b
  by_cases hfit : l.length + 1 ≤ cap
  · have hrun := run_append_room_src (P := P) w t t ty e i ht hi g off l.length cap _ 1 [.int .i64 x, .int .i64 y] hs hfit (fun j hj => by
      rw [hsize, Nat.add_assoc]; exact (hq.room (l.length * 2 + j) (by simp at hj; omega)).1) (fun j hj => by
      rw [hsize, Nat.add_assoc]; exact (hq.room (l.length * 2 + j) (by simp at hj; omega)).2)
    rw [hsize] at hrun
    have hsome : ∀ j, j < [Value.int .i64 x, Value.int .i64 y].length → (w.cell? ⟨g, off + l.length * 2 + j, none⟩).isSome = true := fun j hj => by
      rw [Nat.add_assoc]; exact (hq.room (l.length * 2 + j) (by simp at hj; omega)).1
    have e0 := World.cell?_setCells_in g [.int .i64 x, .int .i64 y] (off + l.length * 2) w hsome 0 (by simp)
    have e1 := World.cell?_setCells_in g [.int .i64 x, .int .i64 y] (off + l.length * 2) w hsome 1 (by simp)
    refine ⟨g, off, cap, _, hrun, ⟨by rw [size_setCells]; exact hq.gs, by simpa using hfit, hq.cm, fun j hj => ?_, fun j hj => ?_, fun j hj => ?_⟩, grown_setCells g _ _ _, .inl rfl⟩
    · rw [get_snoc2]
      simp only [List.length_append, List.length_singleton] at hj
      by_cases hjl : j < l.length
      · rw [if_pos hjl, World.cell?_setCells_out g _ _ _ _ (fun _ _ => Or.inl (by show off + j * 2 < off + l.length * 2; omega))]
        exact hA j hjl
      · obtain rfl : j = l.length := by omega
        rw [if_neg hjl, if_pos rfl]
        simpa using e0
    · rw [get_snoc2]
      simp only [List.length_append, List.length_singleton] at hj
      by_cases hjl : j < l.length
      · rw [if_pos hjl, World.cell?_setCells_out g _ _ _ _ (fun _ _ => Or.inl (by show off + (j * 2 + 1) < off + l.length * 2; omega))]
        exact hB j hjl
      · obtain rfl : j = l.length := by omega
        rw [if_neg hjl, if_pos rfl, ← Nat.add_assoc]
        simpa using e1
    · rw [World.frozen?_setCells]
      refine ⟨?_, (hq.room j hj).2⟩
      exact World.isSome_setCells g _ _ _ _ (hq.room j hj).1
  · have hcl : cap = l.length := by have := hq.lc; omega
    have hold : (Builtin.firstCells i.size l.length (.slice (some ⟨g, off, none⟩) l.length cap)).run P w.drew = .ok (flat2 l).toArray w.drew := by
      refine run_firstCells_some w.drew i.size l.length ⟨g, off, none⟩ l.length cap (flat2 l) (by rw [hsize, flat2_len]) (fun j u hu => ?_)
      rw [add_at rfl]
      exact hq.flat j u hu
    have hge := grownCap_ge w (l.length + 1) cap e
    have hcm := grownCap_le_maxLen w (l.length + 1) cap e (by unfold maxLen; omega)
    have hrun := run_append_grow_src (P := P) w t t ty e i z ht hi hz (some ⟨g, off, none⟩) l.length cap (flat2 l) hold _ 1 [.int .i64 x, .int .i64 y] hs (by omega) (by omega) (by rw [hby]; exact growslice_fits (by omega) (by omega))
    have hflat : flat2 l ++ [.int .i64 x, .int .i64 y] = flat2 (l ++ [(x, y)]) := by simp [flat2]
    rw [hflat] at hrun
    have hL : (flat2 (l ++ [(x, y)])).length = (l.length + 1) * 2 := by rw [flat2_len]; simp
    have cell : ∀ j u, (flat2 (l ++ [(x, y)]))[j]? = some u → (w.drew.alloc (.cells ((flat2 (l ++ [(x, y)])).toArray ++ Builtin.zeroCells z.cells (grownCap w (l.length + 1) cap e - (l.length + 1))) e)).cell? ⟨w.heap.size, j, none⟩ = some u := fun j u hu => by
      have hj : j < (flat2 (l ++ [(x, y)])).length := by
        rcases Nat.lt_or_ge j (flat2 (l ++ [(x, y)])).length with h | h
        · exact h
        · rw [List.getElem?_eq_none h] at hu; cases hu
      have e1 : (w.drew.alloc (.cells ((flat2 (l ++ [(x, y)])).toArray ++ Builtin.zeroCells z.cells (grownCap w (l.length + 1) cap e - (l.length + 1))) e)).cell? ⟨w.heap.size, j, none⟩ = _ := World.cell?_alloc_new w.drew _ _ j
      rw [e1, Array.getElem?_append_left (by simpa using hj), List.getElem?_toArray, hu]
    refine ⟨w.heap.size, 0, _, _, hrun, ⟨by simp, by simp; omega, hcm, fun j hj => ?_, fun j hj => ?_, fun j hj => ?_⟩, ⟨rfl, rfl, rfl, by simp, fun k hk _ => heap_alloc_old _ _ (by simpa using hk)⟩, .inr rfl⟩
    · rw [Nat.zero_add]; exact cell _ _ (flat2_get _ j hj).1
    · rw [Nat.zero_add]; exact cell _ _ (flat2_get _ j hj).2
    · rw [Nat.zero_add]
      have e1 : (w.drew.alloc (.cells ((flat2 (l ++ [(x, y)])).toArray ++ Builtin.zeroCells z.cells (grownCap w (l.length + 1) cap e - (l.length + 1))) e)).cell? ⟨w.heap.size, j, none⟩ = _ := World.cell?_alloc_new w.drew _ _ j
      have hsz : ((flat2 (l ++ [(x, y)])).toArray ++ Builtin.zeroCells z.cells (grownCap w (l.length + 1) cap e - (l.length + 1))).size = grownCap w (l.length + 1) cap e * 2 := by
        rw [Array.size_append, List.size_toArray, hL, size_zeroCells, hzs]; omega
      refine ⟨?_, World.frozen?_alloc_new w.drew _ _ j⟩
      rw [e1, Array.getElem?_eq_getElem (by rw [hsz]; exact hj)]
      rfl
end Go.KD
namespace Go
open Go.RowKit Go.KD
theorem wpList_append_q2 {P : Program} (w : World) {ops : Array Oper} {rest : List Oper} {o : Oper} {a : Act} {Q : Exit → Act → World → Prop} (hgd : o.guard = none) (s x : Operand) (t : TypeId)
    (ho : o.op = .call { callee := .builtin .append, args := #[s, x], argTypes := #[t, t] })
    (e : TypeId) (i : TypeInfo) (z : Value) (ht : P.underlying t = some (.slice e)) (hi : P.info? e = some i) (hz : i.zero = some z) (hsize : i.size = 2) (hby : i.bytes = 16) (hzs : z.cells.size = 2)
    (g off cap : Nat) (l : List (Int × Int)) (hs : a.eval s = .slice (some ⟨g, off, none⟩) l.length cap) (hq : Q2 w g off cap l) (b : Nat) (hx : a.eval x = .slice (some ⟨b, 0, none⟩) 1 1) (u v : Int) (c0 : w.cell? ⟨b, 0, none⟩ = some (.int .i64 u)) (c1 : w.cell? ⟨b, 1, none⟩ = some (.int .i64 v)) (hl : l.length + 1 ≤ 1000000)
    (h : ∀ g' off' cap' w', Q2 w' g' off' cap' (l ++ [(u, v)]) → w.grownBy w' (some g) → (g' = g ∨ g' = w.heap.size) → wpList P ops Q rest (a.put o.dst (.slice (some ⟨g', off', none⟩) (l.length + 1) cap')) w') :
    wpList P ops Q (o :: rest) a w := by
  obtain ⟨g', off', cap', w', hr, h1, h2, h3⟩ := run_append_q2 (P := P) w t o.type e i z ht hi hz hsize hby hzs g off cap l hq b u v c0 c1 hl
  refine wpList_plain hgd fun K' hK' => ?_
  unfold Oper.wp execOp
  simp only [ho, resolve, invoke, builtin, Sem.run_bind, Sem.run_pure, Result.andThen_ok, List.map_toArray, List.map_cons, List.map_nil, hs, hx, hr]
  exact hK' _ _ (h g' off' cap' w' h1 h2 h3)
theorem wpList_alloc_z {P : Program} (w : World) {ops : Array Oper} {rest : List Oper} {o : Oper} {a : Act} {Q : Exit → Act → World → Prop} (hg : o.guard = none) (t : TypeId) (hop : o.op = Op.alloc t) (v : Value) (hz : ∀ w, (zeroValue t).run P w = .ok v w)
    (hK : wpList P ops Q rest (a.put o.dst (.pointer (some ⟨w.heap.size, 0, none⟩))) (w.alloc (.cells v.cells t))) : wpList P ops Q (o :: rest) a w := by
  refine wpList_plain hg fun K' hK' => ?_
  unfold Oper.wp execOp
  simp only [hop, Instr.alloc, newVar, newRow, newObj, Sem.run_bind, Sem.run_pure, Result.andThen_ok, hz]
  exact hK' _ _ hK
theorem wpList_build_z {P : Program} (w : World) {ops : Array Oper} {rest : List Oper} {o : Oper} {a : Act} {Q : Exit → Act → World → Prop} (hg : o.guard = none) (t : TypeId) (hop : o.op = Op.build t #[]) (n : Nat) (e : TypeId) (hu : P.underlying t = some (.array n e)) (k : Nat) (hsz : (P.info? e).map (·.size) = some k) (c : Array Value) (hz : ∀ w, (zeroValue t).run P w = .ok (.agg c) w)
    (hK : wpList P ops Q rest (a.put o.dst (.agg c)) w) : wpList P ops Q (o :: rest) a w := by
  have hs : (sizeOf e).run P w = .ok k w := by
    cases hq : P.info? e with
    | none => simp [hq] at hsz
    | some i => have : i.size = k := by simpa [hq] using hsz
                simp [sizeOf, typeInfo, hq, this]
  refine wpList_plain hg fun K' hK' => ?_
  unfold Oper.wp execOp
  simp only [hop, Instr.build, Sem.run_bind, Sem.run_pure, Result.andThen_ok, hz, run_underlying hu, hs, Value.cells, Instr.fill, Array.map_empty, List.toList_toArray]
  exact hK' _ _ hK
theorem run_sizeOf' {P : Program} {e : TypeId} {k : Nat} (h : (P.info? e).map (·.size) = some k) (w : World) : (sizeOf e).run P w = .ok k w := by
  cases hq : P.info? e with
  | none => simp [hq] at h
  | some i => have : i.size = k := by simpa [hq] using h
              simp [sizeOf, typeInfo, hq, this]
theorem run_isAgg_row {P : Program} {e e2 : TypeId} {k : Nat} (h : P.underlying e = some (.array k e2)) (w : World) : (isAgg e).run P w = .ok true w := by
  unfold isAgg
  rw [Sem.run_bind, run_underlying h w]
  simp
theorem run_isAgg_int {P : Program} {e : TypeId} (h : P.underlying e = some (.int .i64)) (w : World) : (isAgg e).run P w = .ok false w := by
  unfold isAgg
  rw [Sem.run_bind, run_underlying h w]
  simp
theorem run_index_row {P : Program} (w : World) (t e e2 : TypeId) (n k i : Nat) (cs : Array Value) (ht : P.underlying t = some (.array n e)) (he : P.underlying e = some (.array k e2)) (hs : (P.info? e).map (·.size) = some k) (hi : i < n) :
    (Instr.index t (.agg cs) (.int .i64 (i : Int))).run P w = .ok (.agg (cs.extract (i * k) (i * k + k))) w := by
  have h1 : (0 : Int) ≤ (i : Int) ∧ (i : Int) < (n : Int) := by omega
  simp [Instr.index, asIntOf, run_underlying ht, hi, part, run_isAgg_row he, run_sizeOf' hs]
theorem run_index_int {P : Program} (w : World) (t e : TypeId) (n i : Nat) (cs : Array Value) (v : Value) (ht : P.underlying t = some (.array n e)) (he : P.underlying e = some (.int .i64)) (hs : (P.info? e).map (·.size) = some 1) (hi : i < n) (hv : cs[i]? = some v) :
    (Instr.index t (.agg cs) (.int .i64 (i : Int))).run P w = .ok v w := by
  have h1 : (0 : Int) ≤ (i : Int) ∧ (i : Int) < (n : Int) := by omega
  simp [Instr.index, asIntOf, run_underlying ht, hi, part, run_isAgg_int he, run_sizeOf' hs, hv]
theorem grid_cell {G : List Int} {x l : Nat} (hG : G.length = 768) (hx : x < 12) (hl : l < 64) : ((ints G).toArray.extract (x * 64) (x * 64 + 64))[l]? = some (.int .i64 G[x * 64 + l]!) := by
  rw [Array.getElem?_extract]
  have : l < min (x * 64 + 64) (ints G).toArray.size - x * 64 := by simp [hG]; omega
  rw [if_pos this]
  simp only [List.getElem?_toArray, ints, List.getElem?_map]
  rw [List.getElem?_eq_getElem (by omega), getElem!_pos G _ (by omega)]
  rfl
end Go

namespace Go.KD
open Go.RowKit
def zer : List Int := List.replicate 768 0
theorem zer_len : zer.length = 768 := by unfold zer; rw [List.length_replicate]
/-- The first n numbers are -1. -/
def iniK (n : Nat) : List Int := List.replicate n (-1) ++ List.replicate (768 - n) 0
theorem iniK_0 : iniK 0 = zer := by unfold iniK zer; rw [List.replicate_zero, List.nil_append]
theorem iniK_all : iniK 768 = gridL [] := by rw [gridL_nil]; unfold iniK; rw [Nat.sub_self, List.replicate_zero, List.append_nil]
theorem iniK_next {n : Nat} (h : n < 768) : (iniK n).set n (-1) = iniK (n + 1) := by
  unfold iniK
  obtain ⟨d, hd⟩ : ∃ d, 768 - n = d + 1 := ⟨767 - n, by omega⟩
  have e : 768 - (n + 1) = d := by omega
  rw [e, hd, List.set_append_right _ _ (by rw [List.length_replicate]; exact Nat.le_refl _), List.length_replicate, Nat.sub_self, List.replicate_succ, List.set_cons_zero, List.replicate_succ', List.append_assoc]
  rfl
/-- The memory of the search: the box of the works, the result, the grid. -/
structure VW (wb w : World) (bx : Obj) (W : World) (G : List Int) : Prop where
  bel : Below wb.heap.size w W
  sz : w.heap.size + 3 ≤ W.heap.size
  bxo : W.heap[w.heap.size]? = some bx
  res : GrA W (w.heap.size + 1) zer
  out : GrA W (w.heap.size + 2) G
variable {wb w W W' : World} {bx : Obj} {G : List Int}
theorem VW.later (h : VW wb w bx W G) (hwb : wb.heap.size ≤ w.heap.size) (hb : Below W.heap.size W W') : VW wb w bx W' G :=
  ⟨h.bel.trans (hb.mono (by have := h.sz; omega)), by have := hb.size; have := h.sz; omega, (hb.block _ (by have := h.sz; omega)).trans h.bxo, h.res.later hb, h.out.later hb⟩
theorem VW.grown {r : Nat} (h : VW wb w bx W G) (hwb : wb.heap.size ≤ w.heap.size) (hb : W.grownBy W' (some r)) (hr : wb.heap.size ≤ r) (h0 : r < w.heap.size ∨ w.heap.size + 3 ≤ r) : VW wb w bx W' G :=
  ⟨Below.grown h.bel hb (by have := h.sz; omega) (fun b hb => by cases hb; exact hr), by have := hb.size; have := h.sz; omega, (hb.block _ (by have := h.sz; omega) (by simp; omega)).trans h.bxo, h.res.grown hb (by simp; omega), h.out.grown hb (by simp; omega)⟩
theorem VW.set (h : VW wb w bx W G) (hwb : wb.heap.size ≤ w.heap.size) (i : Nat) (x : Int) : VW wb w bx (W.setCell ⟨w.heap.size + 2, i, none⟩ (.int .i64 x)) (G.set i x) := by
  have hg := grown_setCell W ⟨w.heap.size + 2, i, none⟩ (.int .i64 x)
  refine ⟨Below.setCell h.bel (by show wb.heap.size ≤ w.heap.size + 2; omega) _, by simpa using h.sz, (hg.block _ (by have := h.sz; omega) (by simp)).trans h.bxo, h.res.grown hg (by simp), h.out.set i x⟩
theorem VW.cells (h : VW wb w bx W G) {v0 v1 v2 : Value} {t : TypeId} (hb : bx = .cells #[v0, v1, v2] t) : W.cell? ⟨w.heap.size, 0, none⟩ = some v0 ∧ W.cell? ⟨w.heap.size, 1, none⟩ = some v1 ∧ W.cell? ⟨w.heap.size, 2, none⟩ = some v2 := by
  have := h.bxo
  rw [hb] at this
  exact ⟨by simp [World.cell?, this], by simp [World.cell?, this], by simp [World.cell?, this]⟩
theorem run_store_grid {P : Program} {g : Nat} (w : World) (l : List Int) (hl : l.length = 768) (ht : w.there g 0 768) : (storeCells ⟨g, 0, none⟩ (ints l)).run P w = .ok () (w.setCells g 0 (ints l)) := by
  have := run_storeCells_cells (P := P) g 0 (ints l) 0 w (fun j hj => by simpa using (ht j (by simpa [hl] using hj)).1) (fun j hj => by simpa using (ht j (by simpa [hl] using hj)).2)
    (fun v hv => by simp only [ints, List.mem_map] at hv; obtain ⟨x, _, rfl⟩ := hv; rfl)
  simpa using this
theorem VW.start (hwb : wb.heap.size ≤ w.heap.size) (t t' : TypeId) : VW wb w bx ((((w.alloc bx).alloc (.cells (ints zer).toArray t)).alloc (.cells (ints zer).toArray t')).setCells (w.heap.size + 2) 0 (ints zer)) zer := by
  obtain ⟨W1, hW1⟩ : ∃ W1, W1 = (w.alloc bx).alloc (.cells (ints zer).toArray t) := ⟨_, rfl⟩
  have z1 : W1.heap.size = w.heap.size + 2 := by rw [hW1]; simp
  have r1 : GrA W1 (w.heap.size + 1) zer := by
    have := GrA.new (w.alloc bx) t zer_len
    rw [← hW1] at this
    simpa using this
  have b1 : W1.heap[w.heap.size]? = some bx := by
    rw [hW1]
    show (Array.push (Array.push w.heap _) _)[w.heap.size]? = _
    rw [Array.getElem?_push_lt (by simp), Array.getElem_push_eq]
  have bel1 : Below wb.heap.size w W1 := by rw [hW1]; exact ((Below.refl _ _).alloc hwb _).alloc (by simp; omega) _
  rw [← hW1]
  have o1 : GrA (W1.alloc (.cells (ints zer).toArray t')) (w.heap.size + 2) zer := by
    have := GrA.new W1 t' zer_len
    rw [z1] at this; exact this
  have hA : Below W1.heap.size W1 (W1.alloc (.cells (ints zer).toArray t')) := (Below.refl _ _).alloc (Nat.le_refl _) _
  have hg := grown_setCells (w.heap.size + 2) (ints zer) 0 (W1.alloc (.cells (ints zer).toArray t'))
  have hsz : (W1.alloc (.cells (ints zer).toArray t')).heap.size = w.heap.size + 3 := by simp [z1]
  refine ⟨Below.grown (bel1.alloc (by omega) _) hg (by omega) (fun b hb => by cases hb; omega), by rw [size_setCells]; omega, ?_, ?_, GrA.of zer_len o1.there o1.lt⟩
  · exact (hg.block _ (by omega) (by simp)).trans ((hA.block _ (by omega)).trans b1)
  · exact (r1.later hA).grown hg (by simp)
theorem src_next {S : List Nat} (hS : S.Nodup) (hl : ∀ s ∈ S, s < 768) {k : Nat} (hk : k < S.length) : (gridL ((S.take k).map fun s => ((s, 0) : Bn))).set S[k]! 0 = gridL ((S.take (k + 1)).map fun s => ((s, 0) : Bn)) := by
  have hm : S[k]! ∈ S := by rw [getElem!_pos S k hk]; exact List.getElem_mem hk
  have hn : ((S.take k).map fun s => ((s, 0) : Bn)).any (fun e => e.1 == S[k]!) = false := by
    rw [List.any_eq_false]
    intro e he
    obtain ⟨s, hs, rfl⟩ := List.mem_map.1 he
    intro h
    have h : s = S[k]! := by simpa using h
    obtain ⟨j, hj, hje⟩ := List.mem_iff_getElem.1 hs
    have hjk : j < k := by simp at hj; omega
    rw [List.getElem_take] at hje
    have h2 : S[j] = S[k] := by rw [hje, h, getElem!_pos S k hk]
    have := (List.getElem_inj hS).1 h2
    omega
  have := gridL_snoc (c := 0) hn (hl _ hm)
  rw [bTake hk, List.map_append]
  exact this
theorem prN_id (x l : Nat) (hl : l < 64) : prN (x * 64 + l) = ((x : Int), (l : Int)) := by
  unfold prN
  rw [show (x * 64 + l) / 64 = x from by omega, show (x * 64 + l) % 64 = l from by omega]
theorem id_of (s : Nat) : ∃ x l, s = x * 64 + l ∧ l < 64 ∧ s / 64 = x := ⟨s / 64, s % 64, by omega, Nat.mod_lt _ (by omega), rfl⟩
theorem prs_at {E : List Bn} {i : Nat} (h : i < E.length) : prs (E.drop i) = prN (E[i]!).1 :: prs (E.drop (i + 1)) := by
  unfold prs
  rw [List.drop_eq_getElem_cons h, List.map_cons, getElem!_pos E i h]
theorem bfE_cost {nx : Nat → List Nat} {E0 : List Bn} (h0 : ∀ e ∈ E0, e.2 = 0) : ∀ i, ∀ e ∈ bfE nx E0 i, e.2 ≤ i
  | 0, e, he => by have := h0 e he; omega
  | i + 1, e, he => by
    have ih := bfE_cost h0 (nx := nx) i
    change e ∈ (if i < (bfE nx E0 i).length then bExp nx (bfE nx E0 i) i else bfE nx E0 i) at he
    split at he
    · rename_i hi
      have hc := ih _ (bMem hi)
      have : ∀ (l : List Nat) (E : List Bn), (∀ e ∈ E, e.2 ≤ i + 1) → ∀ e ∈ l.foldl (bAdd (((bfE nx E0 i)[i]!).2 + 1)) E, e.2 ≤ i + 1 := by
        intro l
        induction l with
        | nil => intro E h; exact h
        | cons y l ihl =>
          intro E h
          refine ihl _ ?_
          unfold bAdd
          split
          · exact h
          · intro e he
            rw [List.mem_append] at he
            rcases he with he | he
            · exact h e he
            · rw [List.mem_singleton] at he; rw [he]; show _ + 1 ≤ _; omega
      exact this _ _ (fun e he => Nat.le_succ_of_le (ih e he)) e he
    · exact Nat.le_succ_of_le (ih e he)
theorem bf_bound {m : Wk} (ok : WkOk m) {S : List Nat} {E : List Bn} {i j : Nat} (h : BOk (nxW m) S E i j) (hs : ∀ s ∈ S, ((s / 64 : Nat) : Int) < m.size) : ∀ e ∈ E, ((e.1 / 64 : Nat) : Int) < m.size := by
  intro e he
  obtain ⟨s, hss, hw⟩ := h.sd e he
  generalize e.2 = k at hw
  cases k with
  | zero => have hw : s = e.1 := hw; rw [← hw]; exact hs s hss
  | succ k => obtain ⟨z, -, hz⟩ := hw; exact nxW_bound ok hz
theorem nxW_at {m : Wk} {x l : Nat} (hx : (x : Int) < m.size) (hl : l < 64) : nxW m (x * 64 + l) = (actsL m (x : Nat) (l : Nat)).map (fun a => wSt m x l a) := by
  unfold nxW
  rw [show (x * 64 + l) / 64 = x from by omega, show (x * 64 + l) % 64 = l from by omega, if_pos hx]
theorem actsL_le (m : Wk) (x l : Int) : (actsL m x l).length ≤ 41 := by
  unfold actsL
  rw [List.length_append]
  have h1 : (mem (nbK m.gates x l m.gates.length)).length ≤ 40 := by unfold mem memN; rw [List.length_map]; exact Nat.le_trans (List.length_filter_le _ _) (by simp)
  split
  · simp; omega
  · simp; omega
theorem prs_len (E : List Bn) (i : Nat) : (prs (E.drop i)).length = E.length - i := by simp [prs]
theorem prs_snoc {E : List Bn} {i y c : Nat} (h : i ≤ E.length) : prs ((E ++ [(y, c)]).drop i) = prs (E.drop i) ++ [prN y] := by
  unfold prs
  rw [List.drop_append_of_le_length h, List.map_append]; rfl
end Go.KD
namespace Go.Proofs.Ytmilpahggceemaa
open Go.RowKit Go.KD
attribute [local go_sem] later_cell later_frozen
theorem zeroGrid : (∀ w, (zeroValue 115).run Try.prog w = .ok (.agg (ints zer).toArray) w) ∧ (Try.prog.info? 115).map (·.size) = some 768 := zero_of_info (by kernel_rfl)
theorem infoA2 : (Try.prog.info? 117).map (fun i => (i.zero, i.size, i.bytes)) = some (some (.agg #[.int .i64 0, .int .i64 0]), 2, 16) := by kernel_rfl
set_option maxRecDepth 100000 in
set_option maxHeartbeats 16000000 in
theorem visits_c (m : Wk) (ad ak : Option Addr) (cd ck : Nat) (S : List Nat) (g off cap : Nat) (wb w : World) (hm : WkAt wb (.agg #[.int .i64 m.size, .slice ad m.gates.length cd, .slice ak m.pulls.length ck]) m) (ok : WkOk m) (hbw : Below wb.heap.size wb w) (hS : S.Nodup) (hsz : ∀ s ∈ S, ((s / 64 : Nat) : Int) < m.size) (hq : Q2 w g off cap (S.map prN)) (hg : wb.heap.size ≤ g) :
    Calls Try.prog 159 #[(.agg #[.int .i64 m.size, .slice ad m.gates.length cd, .slice ak m.pulls.length ck]), .slice (some ⟨g, off, none⟩) S.length cap] w fun e w' => e = .returned (.agg (ints (gridL (bfF (nxW m) (S.map fun s => ((s, 0) : Bn))))).toArray) ∧ Below wb.heap.size w w' := by
  obtain ⟨i2, ji, jz0, jz1, jz2⟩ := info_parts infoA2
  obtain ⟨E0, hE0⟩ : ∃ E0 : List Bn, E0 = S.map fun s => ((s, 0) : Bn) := ⟨_, rfl⟩
  rw [← hE0]
  have HE0 := Lib.hid hE0
  obtain ⟨FF, hFF⟩ : ∃ FF, FF = bfF (nxW m) E0 := ⟨_, rfl⟩
  rw [← hFF]
  have HFFF := Lib.hid hFF
  clear hE0 hFF
  have HZG := Lib.hid zeroGrid
  have hwb := hbw.size
  have hgs := hq.gs
  obtain ⟨bx, hbx⟩ : ∃ bx, bx = Obj.cells #[.int .i64 m.size, .slice ad m.gates.length cd, .slice ak m.pulls.length ck] 36 := ⟨_, rfl⟩
  have HBX := Lib.hid hbx
  have HQ0 := Lib.hid hq
  have HV0 : Hid (VW wb w bx ((((w.alloc bx).alloc (.cells (ints zer).toArray 115)).alloc (.cells (ints zer).toArray 115)).setCells (w.heap.size + 2) 0 (ints zer)) zer) := VW.start hwb _ _
  have HQ1 : Hid (Q2 ((((w.alloc bx).alloc (.cells (ints zer).toArray 115)).alloc (.cells (ints zer).toArray 115)).setCells (w.heap.size + 2) 0 (ints zer)) g off cap (S.map prN)) := by
    refine Q2.grown ?_ (grown_setCells _ _ _ _) (by simp; omega)
    exact hq.later (((((Below.refl _ _).alloc (Nat.le_refl _) _).alloc (by simp) _).alloc (by simp; omega) _))
  have HTH : Hid ((((w.alloc bx).alloc (.cells (ints zer).toArray 115)).alloc (.cells (ints zer).toArray 115)).there (w.heap.size + 2) 0 768) := by
    have := (GrA.new ((w.alloc bx).alloc (.cells (ints zer).toArray 115)) 115 zer_len).there
    have e : ((w.alloc bx).alloc (.cells (ints zer).toArray 115)).heap.size = w.heap.size + 2 := by simp
    rw [e] at this
    exact this
  have hst : (storeCells ⟨w.heap.size + 1 + 1, 0, none⟩ (ints zer)).run Try.prog (((w.alloc bx).alloc (.cells (ints zer).toArray 115)).alloc (.cells (ints zer).toArray 115)) = .ok () ((((w.alloc bx).alloc (.cells (ints zer).toArray 115)).alloc (.cells (ints zer).toArray 115)).setCells (w.heap.size + 2) 0 (ints zer)) := run_store_grid _ _ zer_len HTH.out
  obtain ⟨W0, hW0⟩ : ∃ W0, W0 = ((((w.alloc bx).alloc (.cells (ints zer).toArray 115)).alloc (.cells (ints zer).toArray 115)).setCells (w.heap.size + 2) 0 (ints zer)) := ⟨_, rfl⟩
  rw [← hW0] at hst HV0 HQ1
  rw [hbx] at hst
  clear hbx hq hW0
  go_enter Try.func159, Try.ntmps159
  go_wp2_with (first
    | (refine wpList_alloc_z _ rfl 115 rfl _ HZG.out.1 ?_)
    | (refine wpList_build_z _ rfl 115 rfl 12 113 Try.underlying115 64 (by kernel_rfl) _ HZG.out.1 ?_))
  go_loopw [18] (fun i wr => ∃ k : Nat, i = .int .i64 k ∧ k ≤ 12 ∧ Hid (VW wb w bx wr (iniK (k * 64))) ∧ Hid (Q2 wr g off cap (S.map prN))) (fun i _ => 12 - (intOf i).toNat)
  case atStart => exact ⟨0, rfl, by omega, by rw [Nat.zero_mul, iniK_0]; exact HV0, HQ1⟩
  case round =>
    clear HV0 HQ1 hst HTH
    obtain ⟨wo, rfl⟩ : ∃ wo : World, wo = wr := ⟨_, rfl⟩
    obtain ⟨k, rfl, hk, HV, HQ⟩ := hrel
    by_cases hlt : k < 12
    · have hkI : (k : Int) < 12 := by omega
      go_wp2
      go_loopw [21] (fun i wr => ∃ j : Nat, i = .int .i64 j ∧ j ≤ 64 ∧ Hid (VW wb w bx wr (iniK (k * 64 + j))) ∧ Hid (Q2 wr g off cap (S.map prN))) (fun i _ => 64 - (intOf i).toNat)
      case atStart => exact ⟨0, rfl, by omega, HV, HQ⟩
      case round =>
        clear HV HQ
        obtain ⟨wi, rfl⟩ : ∃ wi : World, wi = wr := ⟨_, rfl⟩
        obtain ⟨j, rfl, hj, HV, HQ⟩ := hrel
        by_cases hlt2 : j < 64
        · have hjI : (j : Int) < 64 := by omega
          have c0 := HV.out.out.cell (k * 64 + j) (by omega)
          have f0 := HV.out.out.fr (k * 64 + j) (by omega)
          go_wp2
          go_roundw
          case rel => exact ⟨j + 1, by go_num, by omega, by have := HV.out.set hwb (k * 64 + j) (-1); rw [iniK_next (by omega)] at this; exact this, HQ.out.grown (grown_setCell _ _ _) (by simp; omega)⟩
          case measure => simp [intOf]; omega
        · obtain rfl : j = 64 := by omega
          go_wp2
          go_roundw
          case rel => exact ⟨k + 1, by go_num, by omega, by rw [Nat.succ_mul]; exact HV, HQ⟩
          case measure => simp [intOf]; omega
    · obtain rfl : k = 12 := by omega
      have HV1 : Hid (VW wb w bx wo (gridL ((S.take 0).map fun s => ((s, 0) : Bn)))) := by have := HV.out; rw [show 12 * 64 = 768 from rfl, iniK_all] at this; exact this
      have HLT : Hid (∀ s ∈ S, s < 768) := fun s hs => by have := hsz s hs; have := ok.s2; omega
      have HSN := Lib.hid hS
      have hSl : S.length ≤ 768 := bLt_of hS HLT.out
      have HLS := Lib.hid hsz
      have OK := Lib.hid ok
      clear HV hS hsz ok hlt
      rw [show ((12 : Nat) : Int) = 12 from rfl]
      go_wp2
      go_loopw [32] (fun i wr => ∃ k : Nat, i = .int .i64 k ∧ k ≤ S.length ∧ Hid (VW wb w bx wr (gridL ((S.take k).map fun s => ((s, 0) : Bn)))) ∧ Hid (Q2 wr g off cap (S.map prN))) (fun i _ => S.length - (intOf i).toNat)
      case atStart => exact ⟨0, rfl, Nat.zero_le _, HV1, HQ⟩
      case round =>
        clear HV1 HQ
        obtain ⟨wo, rfl⟩ : ∃ wo : World, wo = wr := ⟨_, rfl⟩
        obtain ⟨k, rfl, hk, HV, HQ⟩ := hrel
        have hzo := HV.out.sz
        by_cases hlt : k < S.length
        · have hkI : (k : Int) < (S.length : Int) := by omega
          have HSX := Lib.hid (src_next HSN.out HLT.out hlt)
          have hmem : S[k]! ∈ S := by rw [getElem!_pos S k hlt]; exact List.getElem_mem hlt
          have hxs := HLS.out _ hmem
          have hpm : (S.map prN)[k]! = prN S[k]! := by rw [getElem!_pos _ k (by simpa using hlt), getElem!_pos S k hlt]; simp
          have ea := HQ.out.a k (by simpa using hlt)
          have eb := HQ.out.b k (by simpa using hlt)
          obtain ⟨x, l, hs, hl, hx⟩ := id_of S[k]!
          rw [hpm, hs, prN_id x l hl] at ea eb
          rw [← Nat.add_assoc] at eb
          rw [hx] at hxs
          rw [hs] at HSX
          have hx12 : x < 12 := by have := OK.out.s2; omega
          have hxI : (x : Int) < 12 := by omega
          have hlI : (l : Int) < 64 := by omega
          dsimp only at ea eb
          have c0 := HV.out.out.cell (x * 64 + l) (by omega)
          have f0 := HV.out.out.fr (x * 64 + l) (by omega)
          have HSK := Lib.hid hs
          clear hpm hmem hs hx
          obtain ⟨W1, hW1⟩ : ∃ W1, W1 = wo.alloc (.cells #[.int .i64 (x : Int), .int .i64 (l : Int)] 117) := ⟨_, rfl⟩
          have p0 : W1.cell? ⟨wo.heap.size, 0, none⟩ = some (.int .i64 (x : Int)) := by rw [hW1]; simp [go_sem]
          have p1 : W1.cell? ⟨wo.heap.size, 1, none⟩ = some (.int .i64 (l : Int)) := by rw [hW1]; simp [go_sem]
          have hA : Below wo.heap.size wo W1 := by rw [hW1]; exact (Below.refl _ _).alloc (Nat.le_refl _) _
          have c1 := (hA.cell (p := ⟨w.heap.size + 2, x * 64 + l, none⟩) (by show w.heap.size + 2 < _; omega)).trans c0
          have f1 := (hA.frozen (p := ⟨w.heap.size + 2, x * 64 + l, none⟩) (by show w.heap.size + 2 < _; omega)).trans f0
          have HA := Lib.hid hA
          clear hA c0 f0
          go_upto_region 14 with fail
          rw [← hW1]
          clear hW1
          go_region_held3 (fun W => W.cell? ⟨wo.heap.size, 0, none⟩ = some (.int .i64 (x : Int)) ∧ W.cell? ⟨wo.heap.size, 1, none⟩ = some (.int .i64 (l : Int)))
            (first | exact ⟨p0, p1⟩ | (exact ⟨(World.cell?_setCell_other _ _ _ _ (fun h => by have := congrArg Addr.block h; simp at this; omega)).trans p0, (World.cell?_setCell_other _ _ _ _ (fun h => by have := congrArg Addr.block h; simp at this; omega)).trans p1⟩))
            (fail)
          have HV2 : Hid (VW wb w bx W1 (gridL ((S.take k).map fun s => ((s, 0) : Bn)))) := HV.out.later hwb HA.out
          have HV3 := HV2.out.set hwb (x * 64 + l) 0
          rw [HSX.out] at HV3
          have HV4 : Hid (VW wb w bx (W1.setCell ⟨w.heap.size + 2, x * 64 + l, none⟩ (.int .i64 0)).drew (gridL ((S.take (k + 1)).map fun s => ((s, 0) : Bn)))) := HV3.later hwb (Below.refl _ _).drew
          have HQ4 : Hid (Q2 (W1.setCell ⟨w.heap.size + 2, x * 64 + l, none⟩ (.int .i64 0)).drew g off cap (S.map prN)) := ((HQ.out.later HA.out).grown (grown_setCell _ _ _) (by simp; omega)).later (Below.refl _ _).drew
          clear HV3
          go_wp2
          go_roundw
          case rel => exact ⟨k + 1, by go_num, by omega, HV4, HQ4⟩
          case measure => simp [intOf]; omega
        · obtain rfl : k = S.length := by omega
          have hE0 := HE0.out
          have HBO : Hid (∀ i, BOk (nxW m) S (bfE (nxW m) E0 i) i 0) := by rw [hE0]; exact bfE_ok (nxW_lt OK.out) (b_start HSN.out HLT.out)
          have HCO : Hid (∀ i, ∀ e ∈ bfE (nxW m) E0 i, e.2 ≤ i) := bfE_cost (fun e he => by rw [hE0] at he; obtain ⟨s, -, rfl⟩ := List.mem_map.1 he; rfl)
          have HV5 : Hid (VW wb w bx wo (gridL (bfE (nxW m) E0 0))) := by have := HV.out; rw [List.take_length, ← hE0] at this; exact this
          have HQ5 : Hid (Q2 wo g off cap (prs ((bfE (nxW m) E0 0).drop 0))) := by
            have e : prs ((bfE (nxW m) E0 0).drop 0) = S.map prN := by
              show prs E0 = _
              rw [hE0]; unfold prs; rw [List.map_map]; rfl
            rw [e]; exact HQ.out
          have hl0 : S.length = (bfE (nxW m) E0 0).length - 0 := by show _ = E0.length - 0; rw [hE0]; simp
          have HL0 := Lib.hid hl0
          clear HV HQ hl0 hE0
          have HMW : Hid (∀ W, Below wb.heap.size w W → WkAt W (.agg #[.int .i64 m.size, .slice ad m.gates.length cd, .slice ak m.pulls.length ck]) m) := fun W hW => hm.later (hbw.trans hW)
          clear hm
          go_wp2
          go_loopg [10] 768 (fun n t wr => ∃ i g off cap : Nat, n = 768 - i ∧ t = .slice (some ⟨g, off, none⟩) ((bfE (nxW m) E0 i).length - i) cap ∧ i ≤ (bfE (nxW m) E0 i).length ∧ wb.heap.size ≤ g ∧ (g < w.heap.size ∨ w.heap.size + 3 ≤ g) ∧ Hid (VW wb w bx wr (gridL (bfE (nxW m) E0 i))) ∧ Hid (Q2 wr g off cap (prs ((bfE (nxW m) E0 i).drop i))))
          case atStart => exact ⟨0, g, off, cap, rfl, by rw [← HL0.out], Nat.zero_le _, hg, by omega, HV5, HQ5⟩
          case round =>
            clear HV5 HQ5 HL0 HQ0 hgs hg
            obtain ⟨wo, rfl⟩ : ∃ wo : World, wo = wr := ⟨_, rfl⟩
            obtain ⟨i, g, off, cap, hgk, rfl, hi, hg, hgd, HV, HQ⟩ := hrel
            obtain ⟨E, hE⟩ : ∃ E, E = bfE (nxW m) E0 i := ⟨_, rfl⟩
            rw [← hE] at hi HV HQ ⊢
            have HOE : Hid (BOk (nxW m) S E i 0) := by rw [hE]; exact HBO.out i
            have hle := HOE.out.le
            have HGK := Lib.hid hgk
            have HE := Lib.hid hE
            have hcap := HQ.out.lc
            rw [prs_len] at hcap
            have hcm := HQ.out.cm
            unfold maxLen at hcm
            have hzo := HV.out.sz
            have hbelo := HV.out.bel
            have HBEL := Lib.hid hbelo
            clear hgk hE hbelo
            by_cases hlt : i < E.length
            · obtain ⟨x, l, hs, hl, hx⟩ := id_of (E[i]!).1
              have hxs : (x : Int) < m.size := by rw [← hx]; exact bf_bound OK.out HOE.out HLS.out _ (bMem hlt)
              have hx12 : x < 12 := by have := OK.out.s2; omega
              have hqd : prs (E.drop i) = ((x : Int), (l : Int)) :: prs (E.drop (i + 1)) := by rw [prs_at hlt, hs, prN_id x l hl]
              have ea := HQ.out.a 0 (by rw [hqd]; simp)
              have eb := HQ.out.b 0 (by rw [hqd]; simp)
              rw [hqd] at ea eb
              simp only [Nat.zero_mul, Nat.add_zero, Nat.zero_add, List.getElem!_cons_zero] at ea eb
              obtain ⟨q0, q1, q2⟩ := HV.out.cells HBX.out
              have hqI : (0 : Int) < (((E.length - i : Nat)) : Int) := by omega
              obtain ⟨c, hc⟩ : ∃ c, c = (E[i]!).2 := ⟨_, rfl⟩
              have hc768 : c ≤ 768 := by rw [hc]; have := HCO.out i _ (by rw [← HE.out]; exact bMem hlt); omega
              have HC := Lib.hid hc
              have HSE := Lib.hid hs
              have hi768 : i < 768 := by omega
              have HNXW : Hid (nxW m (E[i]!).1 = (actsL m (x : Nat) (l : Nat)).map (fun a => wSt m x l a)) := by show _ = _; rw [hs]; exact nxW_at hxs hl
              obtain ⟨A, hA⟩ : ∃ A, A = actsL m (x : Nat) (l : Nat) := ⟨_, rfl⟩
              rw [← hA] at HNXW
              have HAA := Lib.hid hA
              have hAl : A.length ≤ 41 := by rw [hA]; exact actsL_le m x l
              have hxI : (x : Int) < 12 := by omega
              have hlI : (l : Int) < 64 := by omega
              clear hqd hs hc hx hA
              go_upto_region 19 with fail
              go_region_held3 (fun W => W.cell? ⟨g, off, none⟩ = some (.int .i64 (x : Int)) ∧ W.cell? ⟨g, off + 1, none⟩ = some (.int .i64 (l : Int)))
                (exact ⟨ea, eb⟩)
                (fail)
              have HV1 : Hid (VW wb w bx wo.drew (gridL E)) := HV.out.later hwb (Below.refl _ _).drew
              have HQ1 : Hid (Q2 wo.drew g off cap (prs (E.drop i))) := HQ.out.later (Below.refl _ _).drew
              have hgo := HQ.out.gs
              clear HV HQ ea eb
              go_wp2_with (go_at_call 163; refine (acts_c _ m x l _ (HMW.out _ HV1.out.bel) OK.out hxs hl).mono ?_; rintro e w2 ⟨u2, rfl, ho2, hb2⟩; rw [← HAA.out] at ho2; obtain ⟨a2, c2, rfl⟩ := own_slice ho2)
              have HO2 : Hid (Own wo.drew.heap.size w2.heap.size w2 3 1 (.slice a2 A.length c2) A.length (ints A)) := Own.of ho2
              have HV2 : Hid (VW wb w bx w2 (gridL E)) := HV1.out.later hwb hb2
              have HQ2 : Hid (Q2 w2 g off cap (prs (E.drop i))) := HQ1.out.later hb2
              have hz2 : wo.heap.size ≤ w2.heap.size := hb2.size
              clear HV1 HQ1 ho2 hb2 q0 q1 q2
              go_loopw [62, 10] (fun jv t wr => ∃ j g off cap : Nat, jv = .int .i64 j ∧ j ≤ A.length ∧ t = .slice (some ⟨g, off, none⟩) ((bExpJ (nxW m) E i j).length - i) cap ∧ wb.heap.size ≤ g ∧ (g < w.heap.size ∨ w.heap.size + 3 ≤ g) ∧ (g < wo.heap.size ∨ w2.heap.size ≤ g) ∧ w2.heap.size ≤ wr.heap.size ∧ Hid (VW wb w bx wr (gridL (bExpJ (nxW m) E i j))) ∧ Hid (Q2 wr g off cap (prs ((bExpJ (nxW m) E i j).drop i))) ∧ Hid (Own wo.heap.size w2.heap.size wr 3 1 (.slice a2 A.length c2) A.length (ints A))) (fun jv _ _ => A.length - (intOf jv).toNat)
              case atStart => exact ⟨0, g, off, cap, rfl, Nat.zero_le _, by simp [bExpJ], hg, hgd, .inl hgo, Nat.le_refl _, by simpa [bExpJ] using HV2, by simpa [bExpJ] using HQ2, HO2⟩
              case round =>
                clear HV2 HQ2 HO2 hgo hg hgd hcap hcm
                obtain ⟨wi, rfl⟩ : ∃ wi : World, wi = wr := ⟨_, rfl⟩
                obtain ⟨j, g, off, cap, rfl, hj, rfl, hg, hgd, hgw, hzi, HV, HQ, HO⟩ := hrel
                have hlen : (nxW m (E[i]!).1).length = A.length := by rw [HNXW.out, List.length_map]
                have HOF : Hid (BOk (nxW m) S (bExpJ (nxW m) E i j) i j) := HOE.out.exp (nxW_lt OK.out) hlt j (by omega)
                have hpre := bExpJ_pre (nxW m) E i j
                obtain ⟨F, hF⟩ : ∃ F, F = bExpJ (nxW m) E i j := ⟨_, rfl⟩
                rw [← hF] at hpre HOF HV HQ ⊢
                have hFi : F[i]! = E[i]! := bPre_at hpre hlt
                have hFl : i < F.length := Nat.lt_of_lt_of_le hlt hpre.length_le
                have hF768 := HOF.out.le
                have hzi2 := HV.out.sz
                have hcap := HQ.out.lc
                rw [prs_len] at hcap
                have hcm := HQ.out.cm
                unfold maxLen at hcm
                have HFF := Lib.hid hF
                have HFI := Lib.hid hFi
                have HLEN := Lib.hid hlen
                obtain ⟨q0, q1, q2⟩ := HV.out.cells HBX.out
                have HBEL := Lib.hid HV.out.bel
                clear hF hpre hFi hlen
                by_cases hlt2 : j < A.length
                · have hjI : (j : Int) < (A.length : Int) := by omega
                  obtain ⟨b8, off8, av, ha8, HX, hbs8, e8⟩ := (ic_of HO.out).at j hlt2
                  subst ha8
                  have hmem : av ∈ actsL m (x : Nat) (l : Nat) := by rw [← HAA.out, ← HX.out, getElem!_pos A j hlt2]; exact List.getElem_mem hlt2
                  obtain ⟨y, k, hd, hy, hk, hst⟩ := do_nat OK.out hxs hl hmem
                  have hy12 : y < 12 := by have := OK.out.s2; omega
                  have hyI : (y : Int) < 12 := by omega
                  have hkI : (k : Int) < 64 := by omega
                  have hat : (nxW m (E[i]!).1)[j]! = y * 64 + k := by rw [HNXW.out, getElem!_pos _ j (by simpa using hlt2), List.getElem_map, ← hst, ← HX.out, getElem!_pos A j hlt2]
                  have HSTEP : Hid (bExpJ (nxW m) E i (j + 1) = bAdd (c + 1) F (y * 64 + k)) := by
                    show _ = _
                    rw [bExpJ_step (nxW m) E i (by rw [HLEN.out]; exact hlt2), ← HFF.out, hat, ← HC.out]
                  have HD := Lib.hid hd
                  have ec := HV.out.out.cell (y * 64 + k) (by omega)
                  have fc := HV.out.out.fr (y * 64 + k) (by omega)
                  rw [gridL_at F (by omega)] at ec
                  have exl := HV.out.out.cell (x * 64 + l) (by omega)
                  have hFin : (x * 64 + l, c) ∈ F := by have := bMem hFl; rw [HFI.out] at this; rw [HC.out, ← HSE.out]; exact this
                  rw [gridL_at F (by omega), bD_some HOF.out.nd hFin rfl] at exl
                  have HFIN := Lib.hid hFin
                  clear hmem hst hat hd hFin
                  have HCEL : Hid (∀ W, Below wi.heap.size wi W → W.cell? ⟨w.heap.size + 2, y * 64 + k, none⟩ = some (.int .i64 (bD F (y * 64 + k))) ∧ W.frozen? ⟨w.heap.size + 2, y * 64 + k, none⟩ = false ∧ W.cell? ⟨w.heap.size + 2, x * 64 + l, none⟩ = some (.int .i64 (c : Int))) := fun W hW => ⟨(hW.cell (p := ⟨w.heap.size + 2, y * 64 + k, none⟩) (by show w.heap.size + 2 < _; omega)).trans ec, (hW.frozen (p := ⟨w.heap.size + 2, y * 64 + k, none⟩) (by show w.heap.size + 2 < _; omega)).trans fc, (hW.cell (p := ⟨w.heap.size + 2, x * 64 + l, none⟩) (by show w.heap.size + 2 < _; omega)).trans exl⟩
                  clear ec fc exl
                  go_upto_region 24 with (go_at_call 170; refine (behind_c _ m x l av _ (HMW.out _ (HBEL.out.trans (by (repeat (first | exact Below.refl _ _ | apply Below.drew | apply below_drewN | (refine Below.setCell ?_ (by first | omega | (simp; done) | (simp; omega) | (dsimp only; omega)) _) | (refine Below.alloc ?_ (by first | omega | (simp; done) | (simp; omega) | (dsimp only; omega)) _)))))) OK.out hxs hl).mono ?_; rintro e w3 ⟨rfl, hb3⟩; rw [HD.out])
                  have HB3 : Hid (Below wi.heap.size wi w3) := below_then (by (repeat (first | exact Below.refl _ _ | apply Below.drew | apply below_drewN | (refine Below.setCell ?_ (by first | omega | (simp; done) | (simp; omega) | (dsimp only; omega)) _) | (refine Below.alloc ?_ (by first | omega | (simp; done) | (simp; omega) | (dsimp only; omega)) _)))) hb3
                  obtain ⟨ec, fc, exl⟩ := HCEL.out w3 HB3.out
                  have HV3 : Hid (VW wb w bx w3 (gridL F)) := HV.out.later hwb HB3.out
                  have HQ3 : Hid (Q2 w3 g off cap (prs (F.drop i))) := HQ.out.later HB3.out
                  have HO3 : Hid (Own wo.heap.size w2.heap.size w3 3 1 (.slice (some ⟨b8, off8, none⟩) A.length c2) A.length (ints A)) := HO.out.later HB3.out hzi
                  have hz3 := HB3.out.size
                  have hgi := HQ.out.gs
                  clear HV HQ HO HB3 hb3 HCEL q0 q1 q2 e8 HBEL
                  cases hany : F.any (fun e => e.1 == y * 64 + k)
                  case true =>
                    have hbd : ¬ (bD F (y * 64 + k) < 0) := fun h => by rw [bD_neg.1 h] at hany; cases hany
                    have HJN : Hid (bExpJ (nxW m) E i (j + 1) = F) := by show _ = _; rw [HSTEP.out]; exact bAdd_yes hany
                    obtain ⟨bv, hbv⟩ : ∃ bv, bv = bD F (y * 64 + k) := ⟨_, rfl⟩
                    rw [← hbv] at ec hbd
                    have hbd' : decide (bv < 0) = false := by simpa using hbd
                    clear hany hbv
                    go_wp2
                    go_roundw
                    case rel => exact ⟨j + 1, g, off, cap, by go_num, by omega, by rw [HJN.out], hg, hgd, hgw, by omega, by rw [HJN.out]; exact HV3, by rw [HJN.out]; exact HQ3, HO3⟩
                    case measure => simp [intOf]; omega
                  case false =>
                    have HJN : Hid (bExpJ (nxW m) E i (j + 1) = F ++ [(y * 64 + k, c + 1)]) := by show _ = _; rw [HSTEP.out]; exact bAdd_no hany
                    rw [bD_none hany] at ec
                    have hne : y * 64 + k ≠ x * 64 + l := fun h => by
                      have := List.any_eq_false.1 hany _ HFIN.out
                      rw [h] at this
                      simp at this
                    have HANY := Lib.hid hany
                    have hcw : IntKind.i64.wrap ((c : Int) + 1) = (c : Int) + 1 := by rw [IntKind.wrap_i64]; omega
                    clear hany
                    go_upto_region 25 with fail
                    go_region_held3 (fun W => W.cell? ⟨w.heap.size + 2, x * 64 + l, none⟩ = some (.int .i64 (c : Int)))
                      (first | exact exl | exact (World.cell?_setCell_other w3 _ _ _ (fun h => by have := congrArg Addr.off h; simp at this; omega)).trans exl)
                      (fail)
                    have HV4 : Hid (VW wb w bx (w3.setCell ⟨w.heap.size + 2, y * 64 + k, none⟩ (.int .i64 ((c : Int) + 1))).drew (gridL (F ++ [(y * 64 + k, c + 1)]))) := by
                      have := HV3.out.set hwb (y * 64 + k) ((c + 1 : Nat) : Int)
                      rw [gridL_snoc HANY.out (by omega)] at this
                      exact this.later hwb (Below.refl _ _).drew
                    have HQ4 : Hid (Q2 (w3.setCell ⟨w.heap.size + 2, y * 64 + k, none⟩ (.int .i64 ((c : Int) + 1))).drew g off cap (prs (F.drop i))) := (HQ3.out.grown (grown_setCell _ _ _) (by simp; omega)).later (Below.refl _ _).drew
                    have HO4 : Hid (Own wo.heap.size w2.heap.size (w3.setCell ⟨w.heap.size + 2, y * 64 + k, none⟩ (.int .i64 ((c : Int) + 1))).drew 3 1 (.slice (some ⟨b8, off8, none⟩) A.length c2) A.length (ints A)) := (HO3.out.setCell (.inl (by show w.heap.size + 2 < _; omega)) _).later (B := w3.heap.size) (Below.refl _ _).drew (by omega)
                    obtain ⟨w4, hw4⟩ : ∃ w4, w4 = (w3.setCell ⟨w.heap.size + 2, y * 64 + k, none⟩ (.int .i64 ((c : Int) + 1))).drew := ⟨_, rfl⟩
                    have hz4 : w4.heap.size ≤ w3.heap.size := by rw [hw4]; simp
                    have hz4' : w3.heap.size ≤ w4.heap.size := by rw [hw4]; simp
                    rw [← hw4] at HV4 HQ4 HO4 ⊢
                    clear hw4 HV3 HQ3 HO3 ec fc exl
                    have HA4 : Hid (Below w4.heap.size w4 (w4.alloc (.cells #[.int .i64 (y : Int), .int .i64 (k : Int)] 117))) := (Below.refl _ _).alloc (Nat.le_refl _) _
                    have hpl : (prs (F.drop i)).length = F.length - i := prs_len F i
                    have HPL := Lib.hid hpl
                    clear hpl
                    go_wp2_with (at_builtin; refine wpList_append_q2 _ rfl _ _ 125 rfl 117 i2 _ Try.underlying125 ji jz0 jz1 jz2 rfl g off cap (prs (F.drop i)) (by rw [HPL.out]; rfl) (HQ4.out.later HA4.out) w4.heap.size rfl (y : Int) (k : Int) (by simp [go_sem]) (by simp [go_sem]) (by rw [HPL.out]; omega) ?_; intro g5 off5 cap5 w5 hq5 hg5 hat5; rw [HPL.out])
                    have HQ5 : Hid (Q2 w5 g5 off5 cap5 (prs ((F ++ [(y * 64 + k, c + 1)]).drop i))) := by rw [prs_snoc (by omega), prN_id y k hk]; exact hq5
                    have HV5 : Hid (VW wb w bx w5 (gridL (F ++ [(y * 64 + k, c + 1)]))) := (HV4.out.later hwb HA4.out).grown hwb hg5 hg hgd
                    have HO5 : Hid (Own wo.heap.size w2.heap.size w5 3 1 (.slice (some ⟨b8, off8, none⟩) A.length c2) A.length (ints A)) := (HO4.out.later HA4.out (by omega)).grown hg5 (fun b hb => by cases hb; exact hgw)
                    have hz5 : w4.heap.size + 1 ≤ w5.heap.size := by have := hg5.size; simpa using this
                    have hat5' : g5 = g ∨ g5 = w4.heap.size + 1 := by simpa using hat5
                    have hL1 : F.length - i + 1 = (F ++ [(y * 64 + k, c + 1)]).length - i := by simp; omega
                    have HL1 := Lib.hid hL1
                    clear hq5 hg5 hat5 HV4 HQ4 HO4 HA4 hL1
                    go_wp2
                    go_roundw
                    case rel => exact ⟨j + 1, g5, off5, cap5, by go_num, by omega, by rw [HJN.out, ← HL1.out], by omega, by omega, by omega, by omega, by rw [HJN.out]; exact HV5, by rw [HJN.out]; exact HQ5, HO5⟩
                    case measure => simp [intOf]; omega
                · obtain rfl : j = A.length := by omega
                  have HNEXT : Hid (bfE (nxW m) E0 (i + 1) = F) := by
                    show _ = _
                    rw [bfE_next (by rw [← HE.out]; exact hlt), ← HE.out, HFF.out, ← HLEN.out]; rfl
                  have hq1 : F.length - i = (F.length - (i + 1)) + 1 := by omega
                  have hqd : prs (F.drop i) = prN (F[i]!).1 :: prs (F.drop (i + 1)) := prs_at hFl
                  have HQT : Hid (Q2 wi g off cap (prN (F[i]!).1 :: prs (F.drop (i + 1)))) := by rw [← hqd]; exact HQ.out
                  have HI1 : Hid (i + 1 ≤ F.length) := hFl
                  rw [hq1] at hcap ⊢
                  obtain ⟨nq, hnq2⟩ : ∃ nq, nq = F.length - (i + 1) := ⟨_, rfl⟩
                  rw [← hnq2] at hcap ⊢
                  have HNQ := Lib.hid hnq2
                  have hlc1 : 1 ≤ cap := by omega
                  have h1l : (1 : Int) ≤ (nq : Int) + 1 := by omega
                  clear hqd HQ hq1 hnq2
                  by_cases hc1 : cap = 1
                  · subst hc1
                    obtain rfl : nq = 0 := by omega
                    have HQL := Lib.hid HQT.out.last
                    go_wp2
                    go_roundg (768 - (i + 1))
                    case measure => rw [HGK.out]; omega
                    case rel => exact ⟨i + 1, g, off, 0, rfl, by rw [HNEXT.out, ← HNQ.out], by rw [HNEXT.out]; exact HI1.out, hg, hgd, by rw [HNEXT.out]; exact HV, by rw [HNEXT.out]; exact HQL⟩
                  · have HQL := Lib.hid (HQT.out.tail (by omega))
                    go_wp2
                    go_roundg (768 - (i + 1))
                    case measure => rw [HGK.out]; omega
                    case rel => exact ⟨i + 1, g, off + 2, cap - 1, rfl, by rw [HNEXT.out, ← HNQ.out], by rw [HNEXT.out]; exact HI1.out, hg, hgd, by rw [HNEXT.out]; exact HV, by rw [HNEXT.out]; exact HQL⟩
            · obtain rfl : i = E.length := by omega
              have HFIN : Hid (FF = E) := by
                show _ = _
                rw [HFFF.out, bfF_eq (i := E.length) (by omega) (by rw [← HE.out]; exact Nat.le_refl _), ← HE.out]
              have hst2 := run_store_grid (P := Try.prog) wo (gridL E) (gridL_len E) HV.out.res.there
              have hgr := grown_setCells (w.heap.size + 1) (ints (gridL E)) 0 wo
              have hG9 := GrA.of (gridL_len E) HV.out.res.there HV.out.res.lt
              obtain ⟨w9, hw9⟩ : ∃ w9, w9 = wo.setCells (w.heap.size + 1) 0 (ints (gridL E)) := ⟨_, rfl⟩
              rw [← hw9] at hst2 hgr hG9
              have HB9 : Hid (Below wb.heap.size w w9) := Below.grown HBEL.out hgr (by omega) (fun b hb => by cases hb; omega)
              have HI9 : Hid ((Try.prog.info? 115).map (·.size) = some (ints (gridL E)).length) := by show _ = _; rw [length_ints, gridL_len]; exact HZG.out.2
              have hld := run_loadVar_mid (P := Try.prog) w9 (w.heap.size + 1) 0 115 (ints (gridL E)) _ hG9.range Try.underlying115 rfl HI9.out
              have HRG := Lib.hid HV.out.out.range
              clear hw9 hgr hG9 HV HQ
              go_wp2_with fail
              refine wp_load_mid 115 _ rfl (w.heap.size + 2) 0 rfl (ints (gridL E)) _ HRG.out Try.underlying115 rfl HI9.out ?_
              go_wp2
              refine bodyPost_ret (v := .agg (ints (gridL E)).toArray) (by simp [results, Try.results159, asAddr, Result.andThen, hld]) rfl ?_
              exact ⟨by rw [HFIN.out], HB9.out⟩
end Go.Proofs.Ytmilpahggceemaa

namespace Go.KD
open Go.RowKit
noncomputable def pAreApart (m : Wk) (x a y b : Int) : Bool × Bool := if visitB m x a && visitB m y b then (decide (bD (bfF (nxW m) [((x.toNat * 64 + a.toNat, 0) : Bn)]) (y.toNat * 64 + b.toNat) < 0), true) else (false, false)
theorem visit_ok {m : Wk} {x a : Int} (h : visitB m x a = true) : WkOk m ∧ ∃ xn an : Nat, x = xn ∧ a = an ∧ (xn : Int) < m.size ∧ an < 64 := by
  unfold visitB at h
  rw [Bool.and_eq_true, Bool.and_eq_true, worksB_true, inB_true, setB_true] at h
  obtain ⟨⟨h1, h2⟩, h3⟩ := h
  exact ⟨h1, x.toNat, a.toNat, by omega, by omega, by omega, by omega⟩
end Go.KD
namespace Go.Proofs.Ytmilpahggceemaa
open Go.RowKit Go.KD
attribute [local go_sem] later_cell later_frozen
set_option maxRecDepth 100000 in
set_option maxHeartbeats 8000000 in
theorem implAreApart_c (v : Value) (m : Wk) (x a y b : Int) (w : World) (hm : WkAt w v m) (wx : wfI x) (wa : wfI a) (wy : wfI y) (wb : wfI b) :
    Calls Try.prog 36 #[v, .int .i64 x, .int .i64 a, .int .i64 y, .int .i64 b] w fun e w' => e = .returned (.tuple #[.bool (pAreApart m x a y b).1, .bool (pAreApart m x a y b).2]) ∧ Below w.heap.size w w' := by
  have hM := hm
  obtain ⟨⟨ad, cd, ak, ck, rfl, hd, hk'⟩, nd, nk⟩ := hM
  cases b1 : visitB m x a
  case false =>
    have hp : pAreApart m x a y b = (false, false) := by simp [pAreApart, b1]
    rw [hp]
    clear hp
    go_enter Try.func36, Try.ntmps36
    go_wp2_with (go_at_call 158; refine (isVisitOf_c _ m _ _ _ (hm.later (by (repeat (first | exact Below.refl _ _ | apply Below.drew | apply below_drewN | (refine Below.setCell ?_ (by first | omega | (simp; done) | (simp; omega) | (dsimp only; omega)) _) | (refine Below.alloc ?_ (by first | omega | (simp; done) | (simp; omega) | (dsimp only; omega)) _)))))).mono ?_; rintro e w1 ⟨rfl, hb1⟩; have HB1 : Hid (Below w.heap.size w w1) := below_then (by (repeat (first | exact Below.refl _ _ | apply Below.drew | apply below_drewN | (refine Below.setCell ?_ (by first | omega | (simp; done) | (simp; omega) | (dsimp only; omega)) _) | (refine Below.alloc ?_ (by first | omega | (simp; done) | (simp; omega) | (dsimp only; omega)) _)))) hb1; have HX1 : Hid (Below (w.heap.size + 1) (w.alloc (.cells #[.int .i64 m.size, .slice ad m.gates.length cd, .slice ak m.pulls.length ck] 36)) w1) := hb1.mono (by simp); rw [b1])
    go_ret2
    exact ⟨rfl, HB1.out⟩
  cases b2 : visitB m y b
  case false =>
    have hp : pAreApart m x a y b = (false, false) := by simp [pAreApart, b2]
    rw [hp]
    clear hp
    have HB2' := Lib.hid b2
    clear b2
    obtain ⟨q0, q1, q2, z1⟩ := box3W (Below.refl (w.heap.size + 1) (w.alloc (.cells #[.int .i64 m.size, .slice ad m.gates.length cd, .slice ak m.pulls.length ck] 36))) (by omega)
    go_enter Try.func36, Try.ntmps36
    go_wp2_with (first
      | (go_at_call 158; refine (isVisitOf_c _ m _ _ _ (hm.later (by (repeat (first | exact Below.refl _ _ | apply Below.drew | apply below_drewN | (refine Below.setCell ?_ (by first | omega | (simp; done) | (simp; omega) | (dsimp only; omega)) _) | (refine Below.alloc ?_ (by first | omega | (simp; done) | (simp; omega) | (dsimp only; omega)) _)))))).mono ?_; rintro e w1 ⟨rfl, hb1⟩; have HB1 : Hid (Below w.heap.size w w1) := below_then (by (repeat (first | exact Below.refl _ _ | apply Below.drew | apply below_drewN | (refine Below.setCell ?_ (by first | omega | (simp; done) | (simp; omega) | (dsimp only; omega)) _) | (refine Below.alloc ?_ (by first | omega | (simp; done) | (simp; omega) | (dsimp only; omega)) _)))) hb1; have HX1 : Hid (Below (w.heap.size + 1) (w.alloc (.cells #[.int .i64 m.size, .slice ad m.gates.length cd, .slice ak m.pulls.length ck] 36)) w1) := hb1.mono (by simp); rw [b1]; clear q0 q1 q2; obtain ⟨q0, q1, q2, z1⟩ := box3W HX1.out (by omega))
      | (go_at_call 158; refine (isVisitOf_c _ m _ _ _ (hm.later HB1.out)).mono ?_; rintro e w2 ⟨rfl, hb2⟩; have HB2 : Hid (Below w.heap.size w w2) := below_then HB1.out hb2; have HX2 : Hid (Below (w.heap.size + 1) (w.alloc (.cells #[.int .i64 m.size, .slice ad m.gates.length cd, .slice ak m.pulls.length ck] 36)) w2) := HX1.out.trans (hb2.mono (by omega)); rw [HB2'.out]))
    go_ret2
    exact ⟨rfl, HB2.out⟩
  obtain ⟨OK, xn, an, rfl, rfl, hx, ha⟩ := visit_ok b1
  obtain ⟨-, yn, bn, rfl, rfl, hy, hb⟩ := visit_ok b2
  have hs2 := OK.s2
  have hy12 : yn < 12 := by omega
  have hp : pAreApart m (xn : Int) (an : Int) (yn : Int) (bn : Int) = (decide (bD (bfF (nxW m) [((xn * 64 + an, 0) : Bn)]) (yn * 64 + bn) < 0), true) := by simp [pAreApart, b1, b2]
  rw [hp]
  obtain ⟨E, hE⟩ : ∃ E, E = bfF (nxW m) [((xn * 64 + an, 0) : Bn)] := ⟨_, rfl⟩
  rw [← hE]
  have HE := Lib.hid hE
  have HB2' := Lib.hid b2
  clear hp hE b2
  obtain ⟨si, hsi⟩ : ∃ si, si = yn * 64 + bn := ⟨_, rfl⟩
  rw [← hsi]
  have HSI := Lib.hid hsi
  obtain ⟨rv, hrv⟩ : ∃ rv, rv = bD E si := ⟨_, rfl⟩
  rw [← hrv]
  obtain ⟨q0, q1, q2, z1⟩ := box3W (Below.refl (w.heap.size + 1) (w.alloc (.cells #[.int .i64 m.size, .slice ad m.gates.length cd, .slice ak m.pulls.length ck] 36))) (by omega)
  go_enter Try.func36, Try.ntmps36
  go_upto_region 3 with (first
    | (go_at_call 158; refine (isVisitOf_c _ m _ _ _ (hm.later (by (repeat (first | exact Below.refl _ _ | apply Below.drew | apply below_drewN | (refine Below.setCell ?_ (by first | omega | (simp; done) | (simp; omega) | (dsimp only; omega)) _) | (refine Below.alloc ?_ (by first | omega | (simp; done) | (simp; omega) | (dsimp only; omega)) _)))))).mono ?_; rintro e w1 ⟨rfl, hb1⟩; have HB1 : Hid (Below w.heap.size w w1) := below_then (by (repeat (first | exact Below.refl _ _ | apply Below.drew | apply below_drewN | (refine Below.setCell ?_ (by first | omega | (simp; done) | (simp; omega) | (dsimp only; omega)) _) | (refine Below.alloc ?_ (by first | omega | (simp; done) | (simp; omega) | (dsimp only; omega)) _)))) hb1; have HX1 : Hid (Below (w.heap.size + 1) (w.alloc (.cells #[.int .i64 m.size, .slice ad m.gates.length cd, .slice ak m.pulls.length ck] 36)) w1) := hb1.mono (by simp); rw [b1]; clear q0 q1 q2; obtain ⟨q0, q1, q2, z1⟩ := box3W HX1.out (by omega))
    | (go_at_call 158; refine (isVisitOf_c _ m _ _ _ (hm.later HB1.out)).mono ?_; rintro e w2 ⟨rfl, hb2⟩; have HB2 : Hid (Below w.heap.size w w2) := below_then HB1.out hb2; have HX2 : Hid (Below (w.heap.size + 1) (w.alloc (.cells #[.int .i64 m.size, .slice ad m.gates.length cd, .slice ak m.pulls.length ck] 36)) w2) := HX1.out.trans (hb2.mono (by omega)); rw [HB2'.out]; clear q0 q1 q2; obtain ⟨q0, q1, q2, z2⟩ := box3W HX2.out (by omega)))
  obtain ⟨G, hG⟩ : ∃ G, G = gridL E := ⟨_, rfl⟩
  have hGl : G.length = 768 := by rw [hG]; exact gridL_len E
  have hGs : G[si]! = rv := by rw [hG, hrv]; exact gridL_at E (by omega)
  have hHG : Hid (gridL (bfF (nxW m) ([xn * 64 + an].map fun s => ((s, 0) : Bn))) = G) := by show _ = _; rw [hG, HE.out]; rfl
  have hyI : (yn : Int) < 12 := by omega
  have hbI : (bn : Int) < 64 := by omega
  have HGS := Lib.hid hGs
  have HGL := Lib.hid hGl
  have HQ : Hid (Q2 (w2.alloc (.cells #[.int .i64 (xn : Int), .int .i64 (an : Int)] 117)) w2.heap.size 0 1 ([xn * 64 + an].map prN)) := by
    have hpr : prN (xn * 64 + an) = ((xn : Int), (an : Int)) := prN_id xn an ha
    refine ⟨by simp, Nat.le_refl _, by unfold maxLen; omega, fun j hj => ?_, fun j hj => ?_, fun j hj => ?_⟩
    · obtain rfl : j = 0 := by simpa using hj
      simp [go_sem, hpr]
    · obtain rfl : j = 0 := by simpa using hj
      simp [go_sem, hpr]
    · have hj2 : j = 0 ∨ j = 1 := by omega
      rcases hj2 with rfl | rfl <;> simp [go_sem]
  have HM2 : Hid (WkAt w2 (.agg #[.int .i64 m.size, .slice ad m.gates.length cd, .slice ak m.pulls.length ck]) m) := hm.later HB2.out
  obtain ⟨Rw, hRw⟩ : ∃ Rw, Rw = (ints G).toArray.extract (yn * 64) (yn * 64 + 64) := ⟨_, rfl⟩
  have hix1 : ∀ W : World, (Instr.index 115 (.agg (ints G).toArray) (.int .i64 (yn : Int))).run Try.prog W = .ok (.agg Rw) W := fun W => by rw [hRw]; exact run_index_row W _ _ _ 12 64 yn _ Try.underlying115 Try.underlying113 (by kernel_rfl) hy12
  have hix2 : ∀ W : World, (Instr.index 113 (.agg Rw) (.int .i64 (bn : Int))).run Try.prog W = .ok (.int .i64 rv) W := fun W => run_index_int W _ _ 64 bn _ _ Try.underlying113 Try.underlying3 (by kernel_rfl) hb (by rw [hRw, grid_cell hGl hy12 hb, ← hsi, hGs])
  clear hrv hsi hG hGs hGl hRw
  go_wp2_with (go_at_call 159; refine (visits_c m ad ak cd ck [xn * 64 + an] w2.heap.size 0 1 w2 _ HM2.out OK ((Below.refl _ _).alloc (Nat.le_refl _) _) (by simp) (fun s hs => by rw [List.mem_singleton] at hs; rw [hs, show (xn * 64 + an) / 64 = xn from by omega]; exact hx) HQ.out (Nat.le_refl _)).mono ?_; rintro e w3 ⟨rfl, hb3⟩; rw [hHG.out]; have HB3 : Hid (Below w.heap.size w w3) := below_then HB2.out (((Below.refl _ _).alloc (Nat.le_refl _) _).trans hb3))
  go_ret2
  exact ⟨rfl, HB3.out⟩
set_option maxRecDepth 100000 in
set_option maxHeartbeats 8000000 in
theorem specAreApart_c (v : Value) (m : Wk) (x a y b : Int) (w : World) (hm : WkAt w v m) (wx : wfI x) (wa : wfI a) (wy : wfI y) (wb : wfI b) :
    Calls Try.prog 37 #[v, .int .i64 x, .int .i64 a, .int .i64 y, .int .i64 b] w fun e w' => e = .returned (.tuple #[.bool (pAreApart m x a y b).1, .bool (pAreApart m x a y b).2]) ∧ Below w.heap.size w w' := by
  have hM := hm
  obtain ⟨⟨ad, cd, ak, ck, rfl, hd, hk'⟩, nd, nk⟩ := hM
  cases b1 : visitB m x a
  case false =>
    have hp : pAreApart m x a y b = (false, false) := by simp [pAreApart, b1]
    rw [hp]
    clear hp
    go_enter Try.func37, Try.ntmps37
    go_wp2_with (go_at_call 160; refine (l8Visit_c _ m _ _ _ (hm.later (by (repeat (first | exact Below.refl _ _ | apply Below.drew | apply below_drewN | (refine Below.setCell ?_ (by first | omega | (simp; done) | (simp; omega) | (dsimp only; omega)) _) | (refine Below.alloc ?_ (by first | omega | (simp; done) | (simp; omega) | (dsimp only; omega)) _)))))).mono ?_; rintro e w1 ⟨rfl, hb1⟩; have HB1 : Hid (Below w.heap.size w w1) := below_then (by (repeat (first | exact Below.refl _ _ | apply Below.drew | apply below_drewN | (refine Below.setCell ?_ (by first | omega | (simp; done) | (simp; omega) | (dsimp only; omega)) _) | (refine Below.alloc ?_ (by first | omega | (simp; done) | (simp; omega) | (dsimp only; omega)) _)))) hb1; have HX1 : Hid (Below (w.heap.size + 1) (w.alloc (.cells #[.int .i64 m.size, .slice ad m.gates.length cd, .slice ak m.pulls.length ck] 36)) w1) := hb1.mono (by simp); rw [b1])
    go_ret2
    exact ⟨rfl, HB1.out⟩
  cases b2 : visitB m y b
  case false =>
    have hp : pAreApart m x a y b = (false, false) := by simp [pAreApart, b2]
    rw [hp]
    clear hp
    have HB2' := Lib.hid b2
    clear b2
    obtain ⟨q0, q1, q2, z1⟩ := box3W (Below.refl (w.heap.size + 1) (w.alloc (.cells #[.int .i64 m.size, .slice ad m.gates.length cd, .slice ak m.pulls.length ck] 36))) (by omega)
    go_enter Try.func37, Try.ntmps37
    go_wp2_with (first
      | (go_at_call 160; refine (l8Visit_c _ m _ _ _ (hm.later (by (repeat (first | exact Below.refl _ _ | apply Below.drew | apply below_drewN | (refine Below.setCell ?_ (by first | omega | (simp; done) | (simp; omega) | (dsimp only; omega)) _) | (refine Below.alloc ?_ (by first | omega | (simp; done) | (simp; omega) | (dsimp only; omega)) _)))))).mono ?_; rintro e w1 ⟨rfl, hb1⟩; have HB1 : Hid (Below w.heap.size w w1) := below_then (by (repeat (first | exact Below.refl _ _ | apply Below.drew | apply below_drewN | (refine Below.setCell ?_ (by first | omega | (simp; done) | (simp; omega) | (dsimp only; omega)) _) | (refine Below.alloc ?_ (by first | omega | (simp; done) | (simp; omega) | (dsimp only; omega)) _)))) hb1; have HX1 : Hid (Below (w.heap.size + 1) (w.alloc (.cells #[.int .i64 m.size, .slice ad m.gates.length cd, .slice ak m.pulls.length ck] 36)) w1) := hb1.mono (by simp); rw [b1]; clear q0 q1 q2; obtain ⟨q0, q1, q2, z1⟩ := box3W HX1.out (by omega))
      | (go_at_call 160; refine (l8Visit_c _ m _ _ _ (hm.later HB1.out)).mono ?_; rintro e w2 ⟨rfl, hb2⟩; have HB2 : Hid (Below w.heap.size w w2) := below_then HB1.out hb2; have HX2 : Hid (Below (w.heap.size + 1) (w.alloc (.cells #[.int .i64 m.size, .slice ad m.gates.length cd, .slice ak m.pulls.length ck] 36)) w2) := HX1.out.trans (hb2.mono (by omega)); rw [HB2'.out]))
    go_ret2
    exact ⟨rfl, HB2.out⟩
  obtain ⟨OK, xn, an, rfl, rfl, hx, ha⟩ := visit_ok b1
  obtain ⟨-, yn, bn, rfl, rfl, hy, hb⟩ := visit_ok b2
  have hs2 := OK.s2
  have hy12 : yn < 12 := by omega
  have hp : pAreApart m (xn : Int) (an : Int) (yn : Int) (bn : Int) = (decide (bD (bfF (nxW m) [((xn * 64 + an, 0) : Bn)]) (yn * 64 + bn) < 0), true) := by simp [pAreApart, b1, b2]
  rw [hp]
  obtain ⟨E, hE⟩ : ∃ E, E = bfF (nxW m) [((xn * 64 + an, 0) : Bn)] := ⟨_, rfl⟩
  rw [← hE]
  have HE := Lib.hid hE
  have HB2' := Lib.hid b2
  clear hp hE b2
  obtain ⟨si, hsi⟩ : ∃ si, si = yn * 64 + bn := ⟨_, rfl⟩
  rw [← hsi]
  have HSI := Lib.hid hsi
  obtain ⟨rv, hrv⟩ : ∃ rv, rv = bD E si := ⟨_, rfl⟩
  rw [← hrv]
  obtain ⟨q0, q1, q2, z1⟩ := box3W (Below.refl (w.heap.size + 1) (w.alloc (.cells #[.int .i64 m.size, .slice ad m.gates.length cd, .slice ak m.pulls.length ck] 36))) (by omega)
  go_enter Try.func37, Try.ntmps37
  go_upto_region 3 with (first
    | (go_at_call 160; refine (l8Visit_c _ m _ _ _ (hm.later (by (repeat (first | exact Below.refl _ _ | apply Below.drew | apply below_drewN | (refine Below.setCell ?_ (by first | omega | (simp; done) | (simp; omega) | (dsimp only; omega)) _) | (refine Below.alloc ?_ (by first | omega | (simp; done) | (simp; omega) | (dsimp only; omega)) _)))))).mono ?_; rintro e w1 ⟨rfl, hb1⟩; have HB1 : Hid (Below w.heap.size w w1) := below_then (by (repeat (first | exact Below.refl _ _ | apply Below.drew | apply below_drewN | (refine Below.setCell ?_ (by first | omega | (simp; done) | (simp; omega) | (dsimp only; omega)) _) | (refine Below.alloc ?_ (by first | omega | (simp; done) | (simp; omega) | (dsimp only; omega)) _)))) hb1; have HX1 : Hid (Below (w.heap.size + 1) (w.alloc (.cells #[.int .i64 m.size, .slice ad m.gates.length cd, .slice ak m.pulls.length ck] 36)) w1) := hb1.mono (by simp); rw [b1]; clear q0 q1 q2; obtain ⟨q0, q1, q2, z1⟩ := box3W HX1.out (by omega))
    | (go_at_call 160; refine (l8Visit_c _ m _ _ _ (hm.later HB1.out)).mono ?_; rintro e w2 ⟨rfl, hb2⟩; have HB2 : Hid (Below w.heap.size w w2) := below_then HB1.out hb2; have HX2 : Hid (Below (w.heap.size + 1) (w.alloc (.cells #[.int .i64 m.size, .slice ad m.gates.length cd, .slice ak m.pulls.length ck] 36)) w2) := HX1.out.trans (hb2.mono (by omega)); rw [HB2'.out]; clear q0 q1 q2; obtain ⟨q0, q1, q2, z2⟩ := box3W HX2.out (by omega)))
  have hsn : si < m.pulls.length * 64 := by have := OK.np; omega
  have hnp := OK.np
  obtain ⟨n, hn⟩ : ∃ n, n = m.pulls.length * 64 := ⟨_, rfl⟩
  rw [← hn] at hsn
  have hsI : (si : Int) < (n : Int) := by omega
  have HRV := Lib.hid hrv
  have HN := Lib.hid hn
  clear hrv hn hsi
  go_wp2_with (first
    | (go_at_call 161; refine (l8Spread_c m ad ak cd ck xn an n _ (hm.later HB2.out) OK hx ha HN.out).mono ?_; rintro e w3 ⟨a3, c3, rfl, hi3, hb3⟩; rw [← HE.out] at hi3; have HB3 : Hid (Below w.heap.size w w3) := below_then HB2.out hb3; obtain ⟨b4, o4, he4, hz4, hc4⟩ := hi3 si (by rw [gridN_len]; exact hsn); cases he4; rw [gridN_at n E hsn, ← HRV.out, Nat.zero_add] at hc4)
    | (go_at_call 162; refine (l4Id_c yn bn si HSI.out (by omega) (by omega) _).mono ?_; rintro e w4 ⟨rfl, rfl⟩))
  go_ret2
  exact ⟨rfl, HB3.out⟩
end Go.Proofs.Ytmilpahggceemaa

namespace Go.KD
open Go.RowKit
/-- The visits of the goal. -/
def goalS (m : Wk) : List Nat := (List.range 64).map fun l => (m.pulls.length - 1) * 64 + l
def goalF (m : Wk) : List Bn := bfF (nxW m) ((goalS m).map fun s => ((s, 0) : Bn))
def goalD (m : Wk) (i : Nat) : Int := bD (goalF m) i
def lstK (v : Nat → Int) : Nat → Int
  | 0 => -1
  | k + 1 => if decide (0 ≤ v k) && (decide (lstK v k < 0) || decide (v k < lstK v k)) then v k else lstK v k
theorem goalS_in {m : Wk} {s : Nat} : s ∈ goalS m ↔ ∃ l, l < 64 ∧ s = (m.pulls.length - 1) * 64 + l := by
  unfold goalS
  simp only [List.mem_map, List.mem_range]
  constructor
  · rintro ⟨l, h1, h2⟩; exact ⟨l, h1, h2.symm⟩
  · rintro ⟨l, h1, h2⟩; exact ⟨l, h1, h2.symm⟩
theorem goalS_nd (m : Wk) : (goalS m).Nodup := by
  unfold goalS
  rw [List.Nodup, List.pairwise_map]
  exact List.nodup_range.imp fun h he => h (by omega)
theorem goalS_sz {m : Wk} (ok : WkOk m) : ∀ s ∈ goalS m, ((s / 64 : Nat) : Int) < m.size := by
  intro s hs
  obtain ⟨l, hl, rfl⟩ := goalS_in.1 hs
  have h1 := ok.np
  have h2 := ok.s1
  omega
theorem goalS_lt {m : Wk} (ok : WkOk m) : ∀ s ∈ goalS m, s < 768 := by
  intro s hs
  have h := goalS_sz ok s hs
  have := ok.s2
  omega
theorem bf_at {m : Wk} (ok : WkOk m) {S : List Nat} (hS : S.Nodup) (hl : ∀ s ∈ S, s < 768) : BOk (nxW m) S (bfF (nxW m) (S.map fun s => ((s, 0) : Bn))) 768 0 := bfE_ok (nxW_lt ok) (b_start hS hl) 768
theorem goal_ans {m : Wk} (ok : WkOk m) (i : Nat) : bAns (nxW m) (goalS m) i (goalD m i) := bf_ans (bf_at ok (goalS_nd m) (goalS_lt ok)) i
theorem one_ans {m : Wk} (ok : WkOk m) {s : Nat} (hs : s < 768) (i : Nat) : bAns (nxW m) [s] i (bD (bfF (nxW m) [((s, 0) : Bn)]) i) := by
  have := bf_ans (bf_at ok (S := [s]) (by simp) (fun t ht => by rw [List.mem_singleton] at ht; omega)) i
  exact this
theorem lst_spec (v : Nat → Int) : ∀ k, (lstK v k = -1 ∧ ∀ j, j < k → v j < 0) ∨ (0 ≤ lstK v k ∧ (∃ j, j < k ∧ lstK v k = v j) ∧ ∀ j, j < k → 0 ≤ v j → lstK v k ≤ v j)
  | 0 => .inl ⟨rfl, fun j hj => by omega⟩
  | k + 1 => by
    have ih := lst_spec v k
    show ((if decide (0 ≤ v k) && (decide (lstK v k < 0) || decide (v k < lstK v k)) then v k else lstK v k) = -1 ∧ _) ∨ (0 ≤ (if decide (0 ≤ v k) && (decide (lstK v k < 0) || decide (v k < lstK v k)) then v k else lstK v k) ∧ (∃ j, j < k + 1 ∧ (if decide (0 ≤ v k) && (decide (lstK v k < 0) || decide (v k < lstK v k)) then v k else lstK v k) = v j) ∧ _)
    by_cases h : (decide (0 ≤ v k) && (decide (lstK v k < 0) || decide (v k < lstK v k))) = true
    · simp only [lstK]
      rw [if_pos h]
      simp only [Bool.and_eq_true, Bool.or_eq_true, decide_eq_true_eq] at h
      right
      refine ⟨h.1, ⟨k, by omega, rfl⟩, fun j hj hv => ?_⟩
      rcases Nat.lt_or_ge j k with hjk | hjk
      · rcases ih with ⟨h1, h2⟩ | ⟨h1, h2, h3⟩
        · have := h2 j hjk; omega
        · have := h3 j hjk hv
          rcases h.2 with h4 | h4 <;> omega
      · obtain rfl : j = k := by omega
        exact Int.le_refl _
    · simp only [lstK]
      rw [if_neg h]
      simp only [Bool.and_eq_true, Bool.or_eq_true, decide_eq_true_eq, not_and, not_or] at h
      rcases ih with ⟨h1, h2⟩ | ⟨h1, ⟨q, hq, hq2⟩, h3⟩
      · left
        refine ⟨h1, fun j hj => ?_⟩
        rcases Nat.lt_or_ge j k with hjk | hjk
        · exact h2 j hjk
        · obtain rfl : j = k := by omega
          rcases Int.lt_or_le (v j) 0 with h4 | h4
          · exact h4
          · have := (h h4).1; omega
      · right
        refine ⟨h1, ⟨q, by omega, hq2⟩, fun j hj hv => ?_⟩
        rcases Nat.lt_or_ge j k with hjk | hjk
        · exact h3 j hjk hv
        · obtain rfl : j = k := by omega
          have := (h hv).2; omega
/-- From a visit to the goal: as many acts as back. -/
theorem goal_least {m : Wk} (ok : WkOk m) {i : Nat} (hi : i < 768) : lstK (fun s => bD (bfF (nxW m) [((i, 0) : Bn)]) ((m.pulls.length - 1) * 64 + s)) 64 = goalD m i := by
  obtain ⟨u, hu⟩ : ∃ u : Nat → Int, u = fun s => bD (bfF (nxW m) [((i, 0) : Bn)]) ((m.pulls.length - 1) * 64 + s) := ⟨_, rfl⟩
  have hv : ∀ s, bAns (nxW m) [i] ((m.pulls.length - 1) * 64 + s) (u s) := fun s => by rw [hu]; exact one_ans ok hi ((m.pulls.length - 1) * 64 + s)
  rw [← hu]
  clear hu
  refine bAns_one (nx := nxW m) (S := goalS m) (y := i) ?_ (goal_ans ok i)
  obtain ⟨t, ht⟩ : ∃ t, t = lstK u 64 := ⟨_, rfl⟩
  have hsp := lst_spec u 64
  rw [← ht] at hsp ⊢
  clear ht
  rcases hsp with ⟨h1, h2⟩ | ⟨h1, ⟨q, hq, hq2⟩, h3⟩
  · refine .inl ⟨h1, fun k s hs hw => ?_⟩
    obtain ⟨l, hl, rfl⟩ := goalS_in.1 hs
    have hr := bWalk_rev (nxW_lt ok) (nxW_sym ok) (goalS_lt ok _ hs) hw
    rcases hv l with ⟨h4, h5⟩ | ⟨h4, h5⟩
    · exact h5 k i (by simp) hr
    · have := h2 l hl
      omega
  · refine .inr ⟨h1, ?_, fun k s hs hw => ?_⟩
    · rcases hv q with ⟨h4, -⟩ | ⟨h4, ⟨s, hs, hw⟩, -⟩
      · omega
      · rw [List.mem_singleton] at hs
        subst hs
        refine ⟨_, goalS_in.2 ⟨q, hq, rfl⟩, ?_⟩
        rw [hq2]
        exact bWalk_rev (nxW_lt ok) (nxW_sym ok) hi hw
    · obtain ⟨l, hl, rfl⟩ := goalS_in.1 hs
      have hr := bWalk_rev (nxW_lt ok) (nxW_sym ok) (goalS_lt ok _ hs) hw
      rcases hv l with ⟨h4, h5⟩ | ⟨h4, -, h5⟩
      · exact absurd hr (h5 k i (by simp))
      · have h6 := h3 l hl h4
        have h7 := h5 k i (by simp) hr
        omega
noncomputable def pFewestActs (m : Wk) : Int × Bool := if worksB m then (if 0 ≤ goalD m 0 then goalD m 0 else 0, decide (0 ≤ goalD m 0)) else (0, false)
end Go.KD

namespace Go.KD
open Go.RowKit
theorem ans_apart {nx : Nat → List Nat} {s t : Nat} {c : Int} (h : bAns nx [s] t c) : c < 0 ↔ ∀ k, ¬ bWalk nx k s t := by
  rcases h with ⟨h1, h2⟩ | ⟨h1, ⟨u, hu, hw⟩, -⟩
  · exact ⟨fun _ k => h2 k s (by simp), fun _ => by omega⟩
  · obtain rfl : u = s := by simpa using hu
    exact ⟨fun h => by omega, fun h => absurd hw (h _)⟩
theorem bD_apart {m : Wk} (ok : WkOk m) {s t : Nat} (hs : s < 768) : bD (bfF (nxW m) [((s, 0) : Bn)]) t < 0 ↔ ∀ k, ¬ bWalk (nxW m) k s t := ans_apart (one_ans ok hs t)
theorem apart_sym {m : Wk} {x a y b : Int} : pAreApart m x a y b = pAreApart m y b x a := by
  unfold pAreApart
  cases h1 : visitB m x a
  · cases h2 : visitB m y b <;> simp
  · cases h2 : visitB m y b
    · simp
    · obtain ⟨ok, xn, an, rfl, rfl, hx, ha⟩ := visit_ok h1
      obtain ⟨-, yn, bn, rfl, rfl, hy, hb⟩ := visit_ok h2
      have := ok.s2
      simp only [Bool.and_self, if_true, Int.toNat_natCast, Prod.mk.injEq, and_true, decide_eq_decide]
      rw [bD_apart ok (by omega), bD_apart ok (by omega)]
      exact ⟨fun h k hw => h k (bWalk_rev (nxW_lt ok) (fun p q hp hq => nxW_sym ok p q hp hq) (by omega) hw), fun h k hw => h k (bWalk_rev (nxW_lt ok) (fun p q hp hq => nxW_sym ok p q hp hq) (by omega) hw)⟩
theorem run_walk {m : Wk} (ok : WkOk m) (p : List Int) : ∀ (k : Nat) (x l : Int), runK m p k = some (x, l) → bWalk (nxW m) k 0 (x.toNat * 64 + l.toNat)
  | 0, x, l, h => by
    simp only [runK, Option.some.injEq, Prod.mk.injEq] at h
    obtain ⟨rfl, rfl⟩ := h
    rfl
  | k + 1, x, l, h => by
    unfold runK at h
    split at h
    · cases h
    · rename_i x0 l0 h0
      obtain ⟨xn, ln, rfl, rfl, hx, hl⟩ := runK_ok ok p k _ _ h0
      have ih := run_walk ok p k _ _ h0
      split at h
      · rename_i ha
        rw [hasI_iff] at ha
        simp only [Option.some.injEq] at h
        obtain ⟨y, c, hd, hy, hc, hw⟩ := do_nat ok hx hl ha
        rw [hd] at h
        cases h
        refine ⟨xn * 64 + ln, by simpa using ih, ?_⟩
        have e1 : (xn * 64 + ln) / 64 = xn := by omega
        have e2 : (xn * 64 + ln) % 64 = ln := by omega
        unfold nxW
        rw [e1, e2, if_pos hx, List.mem_map]
        exact ⟨_, ha, by rw [hw]; simp⟩
      · cases h
/-- Where a plan leads is not apart from the start. -/
theorem run_near {m : Wk} (ok : WkOk m) {p : List Int} {x l : Int} (h : runP m p = (x, l, true)) : pAreApart m 0 0 x l = (false, true) := by
  unfold runP at h
  split at h
  case isFalse => cases h
  case isTrue h60 =>
    cases hr : runK m p p.length with
    | none => rw [hr] at h; cases h
    | some u =>
      obtain ⟨x0, l0⟩ := u
      rw [hr] at h
      cases h
      obtain ⟨xn, ln, rfl, rfl, hx, hl⟩ := runK_ok ok p _ _ _ hr
      have hw := run_walk ok p _ _ _ hr
      have hv : ∀ (y c : Nat), (y : Int) < m.size → c < 64 → visitB m y c = true := fun y c hy hc => by
        unfold visitB
        rw [worksB_true.2 ok, inB_true.2 (by omega), setB_true.2 (by omega)]; rfl
      have h00 := hv 0 0 (by have := ok.s1; omega) (by omega)
      have h00' : visitB m 0 0 = true := h00
      unfold pAreApart
      rw [h00', hv xn ln hx hl]
      simp only [Bool.and_self, if_true, Int.toNat_natCast, Int.toNat_zero, Prod.mk.injEq, and_true, decide_eq_false_iff_not]
      rw [bD_apart ok (by omega)]
      exact fun hn => hn _ (by simpa using hw)
/-! Turned levers -/
theorem gate_in {m : Wk} (ok : WkOk m) {g : D4} (hg : g ∈ m.gates) : 0 ≤ g.1 ∧ g.1 < g.2.1 ∧ g.2.1 < m.size ∧ 0 ≤ g.2.2.1 ∧ g.2.2.1 < 64 ∧ 0 ≤ g.2.2.2 ∧ g.2.2.2 ≤ 1 := by
  obtain ⟨k, hk, rfl⟩ := List.mem_iff_getElem.1 hg
  exact gate_facts ok hk (by rw [getElem!_pos m.gates k hk])
theorem turnD_01 {l : Int} {g : D4} (h0 : 0 ≤ g.2.2.2) (h1 : g.2.2.2 ≤ 1) : 0 ≤ turnD l g ∧ turnD l g ≤ 1 := by
  unfold turnD
  have : g.2.2.2.toNat ^^^ (popN (g.2.2.1.toNat &&& l.toNat) % 2) < 2 ^ 1 := Nat.xor_lt_two_pow (by omega) (by omega)
  omega
theorem turnG_back {l : Int} {g : D4} (h0 : 0 ≤ g.2.2.2) : turnG l (turnG l g) = g := by
  obtain ⟨a, b, c, d⟩ := g
  dsimp only at h0
  unfold turnG turnD
  simp only [Int.toNat_natCast, Nat.xor_assoc, Nat.xor_self, Nat.xor_zero, Prod.mk.injEq, true_and]
  omega
theorem turn_ok {m : Wk} (ok : WkOk m) (l : Int) : WkOk ⟨m.size, turnL l m.gates, m.pulls⟩ := by
  obtain ⟨hs, hm⟩ := turnL_ok l m.gates
  refine ⟨ok.s1, ok.s2, Nat.le_trans (turnL_len l m.gates) ok.ng, ok.np, fun k hk0 => ?_, ok.pl⟩
  have hk : k < (turnL l m.gates).length := hk0
  obtain ⟨g, hg, he⟩ := List.mem_map.1 ((hm _).1 (List.getElem_mem hk))
  have f := gate_in ok hg
  have hd := turnD_01 (l := l) f.2.2.2.2.2.1 f.2.2.2.2.2.2
  have hx : (turnL l m.gates)[k]! = (g.1, g.2.1, g.2.2.1, turnD l g) := by rw [getElem!_pos _ k hk, ← he]; rfl
  rw [gateB_eq hx]
  simp only [Bool.and_eq_true, inB_true, setB_true, Bool.or_eq_true, beq_iff_eq]
  refine ⟨⟨⟨⟨by omega, by omega⟩, by omega⟩, by omega⟩, ?_⟩
  by_cases e : k = 0
  · exact .inl e
  · right
    have := List.pairwise_iff_getElem.1 hs (k - 1) k (by omega) hk (by omega)
    rw [← hx, getElem!_pos _ k hk, getElem!_pos _ (k - 1) (by omega)]
    exact this
theorem turn_back {m : Wk} (ok : WkOk m) (l : Int) : turnL l (turnL l m.gates) = m.gates := by
  obtain ⟨h1, h2⟩ := turnL_ok l (turnL l m.gates)
  refine sorted4_ext _ _ h1 (gates_sorted ok) fun x => ?_
  rw [h2]
  constructor
  · intro h
    obtain ⟨y, hy, rfl⟩ := List.mem_map.1 h
    obtain ⟨z, hz, rfl⟩ := List.mem_map.1 (((turnL_ok l m.gates).2 y).1 hy)
    rw [turnG_back (gate_in ok hz).2.2.2.2.2.1]; exact hz
  · intro h
    refine List.mem_map.2 ⟨turnG l x, ((turnL_ok l m.gates).2 _).2 (List.mem_map.2 ⟨x, h, rfl⟩), turnG_back (gate_in ok h).2.2.2.2.2.1⟩
theorem turn_turn {m R : Wk} {l : Int} (h : pTurnLevers m l = (R, true)) : pTurnLevers R l = (m, true) := by
  unfold pTurnLevers at h
  split at h
  case isFalse => cases h
  case isTrue hc =>
    cases h
    rw [Bool.and_eq_true, worksB_true] at hc
    obtain ⟨ok, hl⟩ := hc
    unfold pTurnLevers
    rw [worksB_true.2 (turn_ok ok l), hl, Bool.and_self, if_pos rfl, turn_back ok l]
theorem popc_popN (s : Nat) : popc s = popN s := by unfold popc; rfl
theorem open_turn {l : Int} {g : D4} (h0 : 0 ≤ g.2.2.2) (h1 : g.2.2.2 ≤ 1) : openB (turnG l g) 0 = openB g l := by
  unfold openB turnG
  dsimp only
  rw [decide_eq_decide]
  have e0 : g.2.2.1.toNat &&& (0 : Int).toNat = 0 := by simp
  rw [e0]
  have hp : popc 0 = 0 := by decide
  rw [hp]
  have ec : popc (g.2.2.1.toNat &&& l.toNat) = ((popN (g.2.2.1.toNat &&& l.toNat) : Nat) : Int) := by first | rfl | simp [popc]
  rw [ec]
  unfold turnD
  have hc : popN (g.2.2.1.toNat &&& l.toNat) % 2 = 0 ∨ popN (g.2.2.1.toNat &&& l.toNat) % 2 = 1 := by omega
  have hd : g.2.2.2.toNat = 0 ∨ g.2.2.2.toNat = 1 := by omega
  rcases hc with hc | hc <;> rcases hd with hd | hd <;> rw [hc, hd] <;> simp <;> omega
theorem acts_turn {m : Wk} (ok : WkOk m) (l : Int) (x : Nat) : actsL ⟨m.size, turnL l m.gates, m.pulls⟩ x 0 = actsL m x l := by
  unfold actsL
  dsimp only
  have e : nbK (turnL l m.gates) x 0 (turnL l m.gates).length = nbK m.gates x l m.gates.length := by
    apply Nat.eq_of_testBit_eq
    intro y
    rw [Bool.eq_iff_iff, nb_bit (turn_ok ok l) x 0 y _ (Nat.le_refl _), nb_bit ok x l y _ (Nat.le_refl _)]
    dsimp only
    constructor
    · rintro ⟨k, hk, ho, hc⟩
      rw [getElem!_pos _ k hk] at ho hc
      obtain ⟨g, hg, he⟩ := List.mem_map.1 (((turnL_ok l m.gates).2 _).1 (List.getElem_mem hk))
      obtain ⟨j, hj, rfl⟩ := List.mem_iff_getElem.1 hg
      have f := gate_in ok hg
      rw [← he] at ho hc
      rw [open_turn f.2.2.2.2.2.1 f.2.2.2.2.2.2] at ho
      exact ⟨j, hj, by rw [getElem!_pos _ j hj]; exact ho, by rw [getElem!_pos _ j hj]; exact hc⟩
    · rintro ⟨j, hj, ho, hc⟩
      rw [getElem!_pos _ j hj] at ho hc
      have hg := List.getElem_mem hj
      have f := gate_in ok hg
      obtain ⟨k, hk, he⟩ := List.mem_iff_getElem.1 (((turnL_ok l m.gates).2 _).2 (List.mem_map.2 ⟨_, hg, rfl⟩))
      refine ⟨k, hk, ?_, ?_⟩
      · rw [getElem!_pos _ k hk, he, open_turn f.2.2.2.2.2.1 f.2.2.2.2.2.2]; exact ho
      · rw [getElem!_pos _ k hk, he]; exact hc
  rw [e]
theorem acts_turned {m R : Wk} {l : Int} (h : pTurnLevers m l = (R, true)) {x : Nat} (hx : (x : Int) < m.size) : ∃ A, pActsAt m x l = (A, true) ∧ pActsAt R x 0 = (A, true) := by
  unfold pTurnLevers at h
  split at h
  case isFalse => cases h
  case isTrue hc =>
    cases h
    rw [Bool.and_eq_true, worksB_true] at hc
    obtain ⟨ok, hl⟩ := hc
    refine ⟨actsL m x l, ?_, ?_⟩
    · unfold pActsAt visitB
      rw [worksB_true.2 ok, inB_true.2 (by omega), hl]; rfl
    · unfold pActsAt visitB
      dsimp only
      rw [worksB_true.2 (turn_ok ok l), inB_true.2 (by omega), setB_true.2 (by omega), acts_turn ok l x]; rfl
end Go.KD
