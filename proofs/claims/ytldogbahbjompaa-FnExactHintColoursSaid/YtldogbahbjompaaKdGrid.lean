/- A grid of 768 numbers in one block; a queue of pairs. No program is named here. -/
import Derived.Test.YtldogbahbjompaaKdQueue
import Derived.Deep.MidRow
import Derived.Deep.WholeRow
set_option linter.unusedVariables false
set_option linter.unusedSimpArgs false
namespace Go.KD
open Go.RowKit
structure GrA (w : World) (g : Nat) (l : List Int) : Prop where
  lt : g < w.heap.size
  len : l.length = 768
  cell : ∀ j, j < 768 → w.cell? ⟨g, j, none⟩ = some (.int .i64 l[j]!)
  fr : ∀ j, j < 768 → w.frozen? ⟨g, j, none⟩ = false
theorem GrA.keep {w w' : World} {g : Nat} {l : List Int} (h : GrA w g l) (hb : w'.heap[g]? = w.heap[g]?) (hs : w.heap.size ≤ w'.heap.size) : GrA w' g l :=
  ⟨Nat.lt_of_lt_of_le h.lt hs, h.len, fun j hj => (World.cell?_of_block (a := ⟨g, j, none⟩) hb).trans (h.cell j hj), fun j hj => (World.frozen?_of_block (a := ⟨g, j, none⟩) hb).trans (h.fr j hj)⟩
theorem GrA.later {w w' : World} {g : Nat} {l : List Int} (h : GrA w g l) (hb : Below w.heap.size w w') : GrA w' g l := h.keep (hb.block g h.lt) hb.size
theorem GrA.grown {w w' : World} {g : Nat} {l : List Int} {row : Option Nat} (h : GrA w g l) (hb : w.grownBy w' row) (hr : row ≠ some g) : GrA w' g l := h.keep (hb.block g h.lt (fun e => hr e.symm)) hb.size
theorem GrA.set {w : World} {g : Nat} {l : List Int} (h : GrA w g l) (i : Nat) (x : Int) : GrA (w.setCell ⟨g, i, none⟩ (.int .i64 x)) g (l.set i x) := by
  refine ⟨by simpa using h.lt, by rw [List.length_set]; exact h.len, fun j hj => ?_, fun j hj => ?_⟩
  · have hl : j < l.length := by rw [h.len]; exact hj
    by_cases e : i = j
    · subst e
      rw [World.cell?_setCell_same' _ _ _ (by rw [h.cell i hj]; rfl), getElem!_pos _ i (by simpa using hl), List.getElem_set_self]
    · rw [World.cell?_setCell_other _ _ _ _ (by simp [e]), h.cell j hj, getElem!_pos l j hl, getElem!_pos _ j (by simpa using hl), List.getElem_set_ne e]
  · simpa using h.fr j hj
theorem GrA.new (w : World) (t : TypeId) {l : List Int} (h : l.length = 768) : GrA (w.alloc (.cells (ints l).toArray t)) w.heap.size l := by
  refine ⟨by simp, h, fun j hj => ?_, fun j hj => World.frozen?_alloc_new w _ _ j⟩
  rw [World.cell?_alloc_new w _ _ j, List.getElem?_toArray, ints, List.getElem?_map, List.getElem?_eq_getElem (by omega), getElem!_pos l j (by omega)]
  rfl
theorem GrA.there {w : World} {g : Nat} {l : List Int} (h : GrA w g l) : w.there g 0 768 := fun j hj => by
  rw [Nat.zero_add]; exact ⟨by rw [h.cell j hj]; rfl, h.fr j hj⟩
theorem GrA.range {w : World} {g : Nat} {l : List Int} (h : GrA w g l) : w.rangeAt g 0 (ints l) := fun j v hv => by
  have hj : j < l.length := by
    rcases Nat.lt_or_ge j l.length with h | h
    · exact h
    · rw [List.getElem?_eq_none (by simpa using h)] at hv; cases hv
  rw [Nat.zero_add, h.cell j (by have := h.len; omega), ← hv, ints, List.getElem?_map, List.getElem?_eq_getElem hj, getElem!_pos l j hj]
  rfl
theorem GrA.of {w : World} {g : Nat} {l : List Int} (hl : l.length = 768) (ht : w.there g 0 768) (hlt : g < w.heap.size) : GrA (w.setCells g 0 (ints l)) g l := by
  refine ⟨by rw [size_setCells]; exact hlt, hl, fun j hj => ?_, fun j hj => ?_⟩
  · have := World.cell?_setCells_in g (ints l) 0 w (fun j hj => (ht j (by rw [length_ints, hl] at hj; exact hj)).1) j (by rw [length_ints, hl]; exact hj)
    rw [Nat.zero_add] at this
    rw [this]
    simp only [ints, List.getElem_map]
    rw [getElem!_pos l j (by omega)]
  · rw [World.frozen?_setCells]
    have := (ht j hj).2
    rwa [Nat.zero_add] at this
theorem grown_setCells (b : Nat) : ∀ (vs : List Value) (o : Nat) (w : World), w.grownBy (w.setCells b o vs) (some b)
  | [], _, w => ⟨rfl, rfl, rfl, Nat.le_refl _, fun _ _ _ => rfl⟩
  | v :: r, o, w => (grown_setCell w ⟨b, o, none⟩ v).trans (grown_setCells b r (o + 1) _)
theorem ints_oneG (l : List Int) : (ints l).toArray.all (·.oneCell') = true := all_oneCell_toArray fun v hv => by
  simp only [ints, List.mem_map] at hv
  obtain ⟨x, _, rfl⟩ := hv
  rfl
/-- A queue of pairs: a slice that is cut at its front and appended to. -/
structure Q2 (w : World) (g off cap : Nat) (l : List (Int × Int)) : Prop where
  gs : g < w.heap.size
  lc : l.length ≤ cap
  cm : cap ≤ maxLen
  a : ∀ j, j < l.length → w.cell? ⟨g, off + j * 2, none⟩ = some (.int .i64 (l[j]!).1)
  b : ∀ j, j < l.length → w.cell? ⟨g, off + (j * 2 + 1), none⟩ = some (.int .i64 (l[j]!).2)
  room : ∀ j, j < cap * 2 → (w.cell? ⟨g, off + j, none⟩).isSome = true ∧ w.frozen? ⟨g, off + j, none⟩ = false
theorem Q2.keep {w w' : World} {g off cap : Nat} {l : List (Int × Int)} (h : Q2 w g off cap l) (hb : w'.heap[g]? = w.heap[g]?) (hs : w.heap.size ≤ w'.heap.size) : Q2 w' g off cap l :=
  ⟨Nat.lt_of_lt_of_le h.gs hs, h.lc, h.cm, fun j hj => (World.cell?_of_block (a := ⟨g, _, none⟩) hb).trans (h.a j hj), fun j hj => (World.cell?_of_block (a := ⟨g, _, none⟩) hb).trans (h.b j hj), fun j hj => by
    rw [World.cell?_of_block (a := ⟨g, off + j, none⟩) hb, World.frozen?_of_block (a := ⟨g, off + j, none⟩) hb]; exact h.room j hj⟩
theorem Q2.later {w w' : World} {g off cap : Nat} {l : List (Int × Int)} (h : Q2 w g off cap l) (hb : Below w.heap.size w w') : Q2 w' g off cap l := h.keep (hb.block g h.gs) hb.size
theorem Q2.grown {w w' : World} {g off cap : Nat} {l : List (Int × Int)} {row : Option Nat} (h : Q2 w g off cap l) (hb : w.grownBy w' row) (hr : row ≠ some g) : Q2 w' g off cap l := h.keep (hb.block g h.gs (fun e => hr e.symm)) hb.size
theorem Q2.tail {w : World} {g off cap : Nat} {x : Int × Int} {l : List (Int × Int)} (h : Q2 w g off cap (x :: l)) (hc : 2 ≤ cap) : Q2 w g (off + 2) (cap - 1) l := by
  have hl := h.lc
  have hm := h.cm
  simp only [List.length_cons] at hl
  refine ⟨h.gs, by omega, by omega, fun j hj => ?_, fun j hj => ?_, fun j hj => ?_⟩
  · have := h.a (j + 1) (by simp; omega)
    rw [show off + (j + 1) * 2 = off + 2 + j * 2 by omega] at this
    simpa using this
  · have := h.b (j + 1) (by simp; omega)
    rw [show off + ((j + 1) * 2 + 1) = off + 2 + (j * 2 + 1) by omega] at this
    simpa using this
  · have := h.room (j + 2) (by omega)
    rwa [show off + (j + 2) = off + 2 + j by omega] at this
theorem Q2.last {w : World} {g off : Nat} {x : Int × Int} {l : List (Int × Int)} (h : Q2 w g off 1 (x :: l)) : Q2 w g off 0 l := by
  have hl := h.lc
  simp only [List.length_cons] at hl
  have h0 : l = [] := List.length_eq_zero_iff.1 (by omega)
  subst h0
  exact ⟨h.gs, Nat.le_refl _, by unfold maxLen; omega, fun j hj => by simp at hj, fun j hj => by simp at hj, fun j hj => by omega⟩
theorem get_snoc2 {l : List (Int × Int)} {z : Int × Int} {j : Nat} : (l ++ [z])[j]! = if j < l.length then l[j]! else if j = l.length then z else (0, 0) := by
  by_cases h : j < l.length
  · rw [if_pos h, getElem!_def, getElem!_def, List.getElem?_append_left h]
  · rw [if_neg h]
    by_cases e : j = l.length
    · subst e; rw [if_pos rfl, getElem!_def]; simp
    · rw [if_neg e, getElem!_def, List.getElem?_eq_none (by simp; omega)]; rfl
def flat2 (l : List (Int × Int)) : List Value := l.flatMap fun p => [.int .i64 p.1, .int .i64 p.2]
theorem flat2_len (l : List (Int × Int)) : (flat2 l).length = l.length * 2 := by
  induction l with
  | nil => rfl
  | cons x l ih => simp only [flat2, List.flatMap_cons, List.length_append, List.length_cons, List.length_nil] at ih ⊢; omega
theorem flat2_get (l : List (Int × Int)) : ∀ j, j < l.length → (flat2 l)[j * 2]? = some (.int .i64 (l[j]!).1) ∧ (flat2 l)[j * 2 + 1]? = some (.int .i64 (l[j]!).2) := by
  induction l with
  | nil => intro j hj; simp at hj
  | cons x l ih =>
    intro j hj
    cases j with
    | zero => exact ⟨rfl, rfl⟩
    | succ j =>
      obtain ⟨h1, h2⟩ := ih j (by simpa using hj)
      have e : flat2 (x :: l) = [.int .i64 x.1, .int .i64 x.2] ++ flat2 l := rfl
      rw [e]
      constructor
      · rw [List.getElem?_append_right (by simp; omega)]
        have : (j + 1) * 2 - [Value.int .i64 x.1, Value.int .i64 x.2].length = j * 2 := by simp; omega
        rw [this, h1]; simp
      · rw [List.getElem?_append_right (by simp; omega)]
        have : (j + 1) * 2 + 1 - [Value.int .i64 x.1, Value.int .i64 x.2].length = j * 2 + 1 := by simp; omega
        rw [this, h2]; simp
theorem Q2.flat {w : World} {g off cap : Nat} {l : List (Int × Int)} (h : Q2 w g off cap l) (j : Nat) (u : Value) (hu : (flat2 l)[j]? = some u) : w.cell? ⟨g, off + j, none⟩ = some u := by
  have hj : j < l.length * 2 := by
    rcases Nat.lt_or_ge j (l.length * 2) with h | h
    · exact h
    · rw [List.getElem?_eq_none (by rw [flat2_len]; exact h)] at hu; cases hu
  obtain ⟨h1, h2⟩ := flat2_get l (j / 2) (by omega)
  rcases Nat.mod_two_eq_zero_or_one j with e | e
  · have e2 : j / 2 * 2 = j := by omega
    rw [e2, hu] at h1
    have := h.a (j / 2) (by omega)
    rw [e2] at this
    rw [this, h1]
  · have e2 : j / 2 * 2 + 1 = j := by omega
    rw [e2, hu] at h2
    have := h.b (j / 2) (by omega)
    rw [e2] at this
    rw [this, h2]
theorem run_append_q2 {P : Program} (w : World) (t ty e : TypeId) (i : TypeInfo) (z : Value) (ht : P.underlying t = some (.slice e)) (hi : P.info? e = some i) (hz : i.zero = some z) (hsize : i.size = 2) (hby : i.bytes = 16) (hzs : z.cells.size = 2)
    (g off cap : Nat) (l : List (Int × Int)) (hq : Q2 w g off cap l) (b : Nat) (x y : Int) (c0 : w.cell? ⟨b, 0, none⟩ = some (.int .i64 x)) (c1 : w.cell? ⟨b, 1, none⟩ = some (.int .i64 y)) (hl : l.length + 1 ≤ 1000000) :
    ∃ g' off' cap' w', (Builtin.append_ #[t, t] ty #[.slice (some ⟨g, off, none⟩) l.length cap, .slice (some ⟨b, 0, none⟩) 1 1]).run P w = .ok (.slice (some ⟨g', off', none⟩) (l.length + 1) cap') w' ∧ Q2 w' g' off' cap' (l ++ [(x, y)]) ∧ w.grownBy w' (some g) ∧ (g' = g ∨ g' = w.heap.size) := by
  have hs : Src P i.size t (.slice (some ⟨b, 0, none⟩) 1 1) 1 [.int .i64 x, .int .i64 y] w := by
    rw [hsize]
    refine Src.ofSlice w ht ⟨b, 0, none⟩ 1 1 _ (by rfl) (fun j u hu => ?_) (fun u hu => ?_)
    · rw [add_at rfl, Nat.zero_add]
      rcases j with _ | _ | j
      · have : Value.int .i64 x = u := by simpa using hu
        rw [c0, this]
      · have : Value.int .i64 y = u := by simpa using hu
        rw [c1, this]
      · simp at hu
    · simp only [List.mem_cons, List.not_mem_nil, or_false] at hu
      rcases hu with rfl | rfl <;> rfl
  have hA := hq.a; have hB := hq.b
  by_cases hfit : l.length + 1 ≤ cap
  · have hrun := run_append_room_src (P := P) w t t ty e i ht hi g off l.length cap _ 1 [.int .i64 x, .int .i64 y] hs hfit (fun j hj => by
      rw [hsize, Nat.add_assoc]; exact (hq.room (l.length * 2 + j) (by simp at hj; omega)).1) (fun j hj => by
      rw [hsize, Nat.add_assoc]; exact (hq.room (l.length * 2 + j) (by simp at hj; omega)).2)
    rw [hsize] at hrun
    have hsome : ∀ j, j < [Value.int .i64 x, Value.int .i64 y].length → (w.cell? ⟨g, off + l.length * 2 + j, none⟩).isSome = true := fun j hj => by
      rw [Nat.add_assoc]; exact (hq.room (l.length * 2 + j) (by simp at hj; omega)).1
    have e0 := World.cell?_setCells_in g [.int .i64 x, .int .i64 y] (off + l.length * 2) w hsome 0 (by simp)
    have e1 := World.cell?_setCells_in g [.int .i64 x, .int .i64 y] (off + l.length * 2) w hsome 1 (by simp)
    refine ⟨g, off, cap, _, hrun, ⟨by rw [size_setCells]; exact hq.gs, by simpa using hfit, hq.cm, fun j hj => ?_, fun j hj => ?_, fun j hj => ?_⟩, grown_setCells g _ _ _, .inl rfl⟩
    · rw [get_snoc2]
      simp only [List.length_append, List.length_singleton] at hj
      by_cases hjl : j < l.length
      · rw [if_pos hjl, World.cell?_setCells_out g _ _ _ _ (fun _ _ => Or.inl (by show off + j * 2 < off + l.length * 2; omega))]
        exact hA j hjl
      · obtain rfl : j = l.length := by omega
        rw [if_neg hjl, if_pos rfl]
        simpa using e0
    · rw [get_snoc2]
      simp only [List.length_append, List.length_singleton] at hj
      by_cases hjl : j < l.length
      · rw [if_pos hjl, World.cell?_setCells_out g _ _ _ _ (fun _ _ => Or.inl (by show off + (j * 2 + 1) < off + l.length * 2; omega))]
        exact hB j hjl
      · obtain rfl : j = l.length := by omega
        rw [if_neg hjl, if_pos rfl, ← Nat.add_assoc]
        simpa using e1
    · rw [World.frozen?_setCells]
      refine ⟨?_, (hq.room j hj).2⟩
      exact World.isSome_setCells g _ _ _ _ (hq.room j hj).1
  · have hcl : cap = l.length := by have := hq.lc; omega
    have hold : (Builtin.firstCells i.size l.length (.slice (some ⟨g, off, none⟩) l.length cap)).run P w.drew = .ok (flat2 l).toArray w.drew := by
      refine run_firstCells_some w.drew i.size l.length ⟨g, off, none⟩ l.length cap (flat2 l) (by rw [hsize, flat2_len]) (fun j u hu => ?_)
      rw [add_at rfl]
      exact hq.flat j u hu
    have hge := grownCap_ge w (l.length + 1) cap e
    have hcm := grownCap_le_maxLen w (l.length + 1) cap e (by unfold maxLen; omega)
    have hrun := run_append_grow_src (P := P) w t t ty e i z ht hi hz (some ⟨g, off, none⟩) l.length cap (flat2 l) hold _ 1 [.int .i64 x, .int .i64 y] hs (by omega) (by omega) (by rw [hby]; exact growslice_fits (by omega) (by omega))
    have hflat : flat2 l ++ [.int .i64 x, .int .i64 y] = flat2 (l ++ [(x, y)]) := by simp [flat2]
    rw [hflat] at hrun
    have hL : (flat2 (l ++ [(x, y)])).length = (l.length + 1) * 2 := by rw [flat2_len]; simp
    have cell : ∀ j u, (flat2 (l ++ [(x, y)]))[j]? = some u → (w.drew.alloc (.cells ((flat2 (l ++ [(x, y)])).toArray ++ Builtin.zeroCells z.cells (grownCap w (l.length + 1) cap e - (l.length + 1))) e)).cell? ⟨w.heap.size, j, none⟩ = some u := fun j u hu => by
      have hj : j < (flat2 (l ++ [(x, y)])).length := by
        rcases Nat.lt_or_ge j (flat2 (l ++ [(x, y)])).length with h | h
        · exact h
        · rw [List.getElem?_eq_none h] at hu; cases hu
      have e1 : (w.drew.alloc (.cells ((flat2 (l ++ [(x, y)])).toArray ++ Builtin.zeroCells z.cells (grownCap w (l.length + 1) cap e - (l.length + 1))) e)).cell? ⟨w.heap.size, j, none⟩ = _ := World.cell?_alloc_new w.drew _ _ j
      rw [e1, Array.getElem?_append_left (by simpa using hj), List.getElem?_toArray, hu]
    refine ⟨w.heap.size, 0, _, _, hrun, ⟨by simp, by simp; omega, hcm, fun j hj => ?_, fun j hj => ?_, fun j hj => ?_⟩, ⟨rfl, rfl, rfl, by simp, fun k hk _ => heap_alloc_old _ _ (by simpa using hk)⟩, .inr rfl⟩
    · rw [Nat.zero_add]; exact cell _ _ (flat2_get _ j hj).1
    · rw [Nat.zero_add]; exact cell _ _ (flat2_get _ j hj).2
    · rw [Nat.zero_add]
      have e1 : (w.drew.alloc (.cells ((flat2 (l ++ [(x, y)])).toArray ++ Builtin.zeroCells z.cells (grownCap w (l.length + 1) cap e - (l.length + 1))) e)).cell? ⟨w.heap.size, j, none⟩ = _ := World.cell?_alloc_new w.drew _ _ j
      have hsz : ((flat2 (l ++ [(x, y)])).toArray ++ Builtin.zeroCells z.cells (grownCap w (l.length + 1) cap e - (l.length + 1))).size = grownCap w (l.length + 1) cap e * 2 := by
        rw [Array.size_append, List.size_toArray, hL, size_zeroCells, hzs]; omega
      refine ⟨?_, World.frozen?_alloc_new w.drew _ _ j⟩
      rw [e1, Array.getElem?_eq_getElem (by rw [hsz]; exact hj)]
      rfl
end Go.KD
namespace Go
open Go.RowKit Go.KD
theorem wpList_append_q2 {P : Program} (w : World) {ops : Array Oper} {rest : List Oper} {o : Oper} {a : Act} {Q : Exit → Act → World → Prop} (hgd : o.guard = none) (s x : Operand) (t : TypeId)
    (ho : o.op = .call { callee := .builtin .append, args := #[s, x], argTypes := #[t, t] })
    (e : TypeId) (i : TypeInfo) (z : Value) (ht : P.underlying t = some (.slice e)) (hi : P.info? e = some i) (hz : i.zero = some z) (hsize : i.size = 2) (hby : i.bytes = 16) (hzs : z.cells.size = 2)
    (g off cap : Nat) (l : List (Int × Int)) (hs : a.eval s = .slice (some ⟨g, off, none⟩) l.length cap) (hq : Q2 w g off cap l) (b : Nat) (hx : a.eval x = .slice (some ⟨b, 0, none⟩) 1 1) (u v : Int) (c0 : w.cell? ⟨b, 0, none⟩ = some (.int .i64 u)) (c1 : w.cell? ⟨b, 1, none⟩ = some (.int .i64 v)) (hl : l.length + 1 ≤ 1000000)
    (h : ∀ g' off' cap' w', Q2 w' g' off' cap' (l ++ [(u, v)]) → w.grownBy w' (some g) → (g' = g ∨ g' = w.heap.size) → wpList P ops Q rest (a.put o.dst (.slice (some ⟨g', off', none⟩) (l.length + 1) cap')) w') :
    wpList P ops Q (o :: rest) a w := by
  obtain ⟨g', off', cap', w', hr, h1, h2, h3⟩ := run_append_q2 (P := P) w t o.type e i z ht hi hz hsize hby hzs g off cap l hq b u v c0 c1 hl
  refine wpList_plain hgd fun K' hK' => ?_
  unfold Oper.wp execOp
  simp only [ho, resolve, invoke, builtin, Sem.run_bind, Sem.run_pure, Result.andThen_ok, List.map_toArray, List.map_cons, List.map_nil, hs, hx, hr]
  exact hK' _ _ (h g' off' cap' w' h1 h2 h3)
theorem wpList_alloc_z {P : Program} (w : World) {ops : Array Oper} {rest : List Oper} {o : Oper} {a : Act} {Q : Exit → Act → World → Prop} (hg : o.guard = none) (t : TypeId) (hop : o.op = Op.alloc t) (v : Value) (hz : ∀ w, (zeroValue t).run P w = .ok v w)
    (hK : wpList P ops Q rest (a.put o.dst (.pointer (some ⟨w.heap.size, 0, none⟩))) (w.alloc (.cells v.cells t))) : wpList P ops Q (o :: rest) a w := by
  refine wpList_plain hg fun K' hK' => ?_
  unfold Oper.wp execOp
  simp only [hop, Instr.alloc, newVar, newRow, newObj, Sem.run_bind, Sem.run_pure, Result.andThen_ok, hz]
  exact hK' _ _ hK
theorem wpList_build_z {P : Program} (w : World) {ops : Array Oper} {rest : List Oper} {o : Oper} {a : Act} {Q : Exit → Act → World → Prop} (hg : o.guard = none) (t : TypeId) (hop : o.op = Op.build t #[]) (n : Nat) (e : TypeId) (hu : P.underlying t = some (.array n e)) (k : Nat) (hsz : (P.info? e).map (·.size) = some k) (c : Array Value) (hz : ∀ w, (zeroValue t).run P w = .ok (.agg c) w)
    (hK : wpList P ops Q rest (a.put o.dst (.agg c)) w) : wpList P ops Q (o :: rest) a w := by
  have hs : (sizeOf e).run P w = .ok k w := by
    cases hq : P.info? e with
    | none => simp [hq] at hsz
    | some i => have : i.size = k := by simpa [hq] using hsz
                simp [sizeOf, typeInfo, hq, this]
  refine wpList_plain hg fun K' hK' => ?_
  unfold Oper.wp execOp
  simp only [hop, Instr.build, Sem.run_bind, Sem.run_pure, Result.andThen_ok, hz, run_underlying hu, hs, Value.cells, Instr.fill, Array.map_empty, List.toList_toArray]
  exact hK' _ _ hK
theorem run_sizeOf' {P : Program} {e : TypeId} {k : Nat} (h : (P.info? e).map (·.size) = some k) (w : World) : (sizeOf e).run P w = .ok k w := by
  cases hq : P.info? e with
  | none => simp [hq] at h
  | some i => have : i.size = k := by simpa [hq] using h
              simp [sizeOf, typeInfo, hq, this]
theorem run_isAgg_row {P : Program} {e e2 : TypeId} {k : Nat} (h : P.underlying e = some (.array k e2)) (w : World) : (isAgg e).run P w = .ok true w := by
  unfold isAgg
  rw [Sem.run_bind, run_underlying h w]
  simp
theorem run_isAgg_int {P : Program} {e : TypeId} (h : P.underlying e = some (.int .i64)) (w : World) : (isAgg e).run P w = .ok false w := by
  unfold isAgg
  rw [Sem.run_bind, run_underlying h w]
  simp
theorem run_index_row {P : Program} (w : World) (t e e2 : TypeId) (n k i : Nat) (cs : Array Value) (ht : P.underlying t = some (.array n e)) (he : P.underlying e = some (.array k e2)) (hs : (P.info? e).map (·.size) = some k) (hi : i < n) :
    (Instr.index t (.agg cs) (.int .i64 (i : Int))).run P w = .ok (.agg (cs.extract (i * k) (i * k + k))) w := by
  have h1 : (0 : Int) ≤ (i : Int) ∧ (i : Int) < (n : Int) := by omega
  simp [Instr.index, asIntOf, run_underlying ht, hi, part, run_isAgg_row he, run_sizeOf' hs]
theorem run_index_int {P : Program} (w : World) (t e : TypeId) (n i : Nat) (cs : Array Value) (v : Value) (ht : P.underlying t = some (.array n e)) (he : P.underlying e = some (.int .i64)) (hs : (P.info? e).map (·.size) = some 1) (hi : i < n) (hv : cs[i]? = some v) :
    (Instr.index t (.agg cs) (.int .i64 (i : Int))).run P w = .ok v w := by
  have h1 : (0 : Int) ≤ (i : Int) ∧ (i : Int) < (n : Int) := by omega
  simp [Instr.index, asIntOf, run_underlying ht, hi, part, run_isAgg_int he, run_sizeOf' hs, hv]
theorem grid_cell {G : List Int} {x l : Nat} (hG : G.length = 768) (hx : x < 12) (hl : l < 64) : ((ints G).toArray.extract (x * 64) (x * 64 + 64))[l]? = some (.int .i64 G[x * 64 + l]!) := by
  rw [Array.getElem?_extract]
  have : l < min (x * 64 + 64) (ints G).toArray.size - x * 64 := by simp [hG]; omega
  rw [if_pos this]
  simp only [List.getElem?_toArray, ints, List.getElem?_map]
  rw [List.getElem?_eq_getElem (by omega), getElem!_pos G _ (by omega)]
  rfl
end Go
