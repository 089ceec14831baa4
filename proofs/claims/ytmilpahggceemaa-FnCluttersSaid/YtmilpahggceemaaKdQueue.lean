/- A queue of numbers: a slice that is cut at its front and appended to. No program is named here. -/
import Derived.Test.YtmilpahggceemaaKdOpen
import Derived.Deep.Upon
import Derived.Deep.RegionLaw
set_option linter.unusedVariables false
set_option linter.unusedSimpArgs false
namespace Go.KD
open Go.RowKit
/-- The numbers l lie behind a slice's address, in a block from base on, with room that is free. -/
def QAt (base : Nat) (w : World) (v : Value) (l : List Int) : Prop :=
  ∃ g off cap, v = .slice (some ⟨g, off, none⟩) l.length cap ∧ base ≤ g ∧ g < w.heap.size ∧ l.length ≤ cap ∧ cap ≤ maxLen ∧ (∀ j, j < l.length → w.cell? ⟨g, off + j, none⟩ = some (.int .i64 l[j]!)) ∧
    ∀ j, j < cap → (w.cell? ⟨g, off + j, none⟩).isSome = true ∧ w.frozen? ⟨g, off + j, none⟩ = false
theorem QAt.later {base : Nat} {w w' : World} {v : Value} {l : List Int} (h : QAt base w v l) (hb : Below w.heap.size w w') : QAt base w' v l := by
  obtain ⟨g, off, cap, hv, h1, h2, h3, h4, h5, h6⟩ := h
  refine ⟨g, off, cap, hv, h1, by have := hb.size; omega, h3, h4, fun j hj => ?_, fun j hj => ?_⟩
  · rw [hb.cell (p := ⟨g, off + j, none⟩) h2]; exact h5 j hj
  · rw [hb.cell (p := ⟨g, off + j, none⟩) h2, hb.frozen (p := ⟨g, off + j, none⟩) h2]; exact h6 j hj
theorem QAt.tail {base g off n cap : Nat} {w : World} {x : Int} {l : List Int} (h : QAt base w (.slice (some ⟨g, off, none⟩) n cap) (x :: l)) {a' : Addr} {n' cap' : Nat} (hn' : n' = l.length) (hc' : cap' = cap - 1) (ha' : a' = if cap = 1 then ⟨g, off, none⟩ else ⟨g, off + 1, none⟩) : QAt base w (.slice (some a') n' cap') l := by
  obtain ⟨g', off', cap0, hv, h1, h2, h3, h4, h5, h6⟩ := h
  cases hv
  subst hn'; subst hc'
  simp only [List.length_cons] at h3 h5
  by_cases hc : cap = 1
  · rw [if_pos hc] at ha'
    subst ha'
    refine ⟨g, off, cap - 1, rfl, h1, h2, by omega, by omega, fun j hj => by omega, fun j hj => by omega⟩
  · rw [if_neg hc] at ha'
    subst ha'
    refine ⟨g, off + 1, cap - 1, rfl, h1, h2, by omega, by omega, fun j hj => ?_, fun j hj => ?_⟩
    · rw [Nat.add_assoc, Nat.add_comm 1 j]
      have := h5 (j + 1) (by omega)
      simpa using this
    · rw [Nat.add_assoc, Nat.add_comm 1 j]; exact h6 (j + 1) (by omega)
theorem below_setCells {base b : Nat} (hb : base ≤ b) : ∀ (vs : List Value) (o : Nat) (w : World), Below base w (w.setCells b o vs)
  | [], _, w => Below.refl _ _
  | v :: r, o, w => ((Below.refl base w).setCell (p := ⟨b, o, none⟩) hb v).trans (below_setCells hb r (o + 1) _)
theorem size_setCells (b : Nat) : ∀ (vs : List Value) (o : Nat) (w : World), (w.setCells b o vs).heap.size = w.heap.size
  | [], _, w => rfl
  | v :: r, o, w => by rw [World.setCells, size_setCells b r]; simp
/-- News out of a slice of numbers. -/
theorem src_ints {P : Program} {w : World} {t e : TypeId} (ht : P.underlying t = some (.slice e)) (a : Option Addr) (c : Nat) (l : List Int) (h : IC w a l) : Src P 1 t (.slice a l.length c) l.length (ints l) w := by
  cases a with
  | none =>
    have h0 : l = [] := by
      cases l with
      | nil => rfl
      | cons x l => obtain ⟨b, off, h, _⟩ := h 0 (by simp); cases h
    subst h0
    exact Src.ofNil w ht c
  | some ad =>
    refine Src.ofSlice w ht ad l.length c (ints l) (by simp) (fun j u hu => ?_) (fun u hu => ?_)
    · have hj : j < l.length := by
        rcases Nat.lt_or_ge j l.length with h | h
        · exact h
        · rw [List.getElem?_eq_none (by simpa using h)] at hu; cases hu
      obtain ⟨b, off, hb, hbs, hc⟩ := h j hj
      cases hb
      rw [add_at rfl, hc, ← hu, ints, List.getElem?_map, List.getElem?_eq_getElem hj, getElem!_pos l j hj]
      rfl
    · simp only [ints, List.mem_map] at hu
      obtain ⟨x, _, rfl⟩ := hu
      rfl
theorem get_app {l k : List Int} {j : Nat} : (l ++ k)[j]! = if j < l.length then l[j]! else k[j - l.length]! := by
  by_cases h : j < l.length
  · rw [if_pos h, getElem!_def, getElem!_def, List.getElem?_append_left h]
  · rw [if_neg h, getElem!_def, getElem!_def, List.getElem?_append_right (by omega)]
theorem run_append_queue {P : Program} (w : World) (t ty e : TypeId) (i : TypeInfo) (z : Value) (ht : P.underlying t = some (.slice e)) (hi : P.info? e = some i) (hz : i.zero = some z) (hsize : i.size = 1) (hby : i.bytes = 8) (hzs : z.cells.size = 1)
    (base : Nat) (v : Value) (l : List Int) (hq : QAt base w v l) (a : Option Addr) (c : Nat) (k : List Int) (hk : IC w a k) (hl : l.length + k.length ≤ 1000000) (hbase : base ≤ w.heap.size) :
    ∃ v' w', (Builtin.append_ #[t, t] ty #[v, .slice a k.length c]).run P w = .ok v' w' ∧ QAt base w' v' (l ++ k) ∧ Below base w w' := by
  obtain ⟨g, off, cap, rfl, h1, h2, h3, h4, h5, h6⟩ := hq
  have hs := src_ints (P := P) ht a c k hk
  rw [← hsize] at hs
  by_cases hfit : l.length + k.length ≤ cap
  · have hrun := run_append_room_src (P := P) w t t ty e i ht hi g off l.length cap _ k.length (ints k) hs hfit (fun j hj => by
      rw [hsize, Nat.mul_one, Nat.add_assoc]; exact (h6 (l.length + j) (by rw [length_ints] at hj; omega)).1) (fun j hj => by
      rw [hsize, Nat.mul_one, Nat.add_assoc]; exact (h6 (l.length + j) (by rw [length_ints] at hj; omega)).2)
    rw [hsize, Nat.mul_one] at hrun
    have hsome : ∀ j, j < (ints k).length → (w.cell? ⟨g, off + l.length + j, none⟩).isSome = true := fun j hj => by
      rw [Nat.add_assoc]; exact (h6 (l.length + j) (by rw [length_ints] at hj; omega)).1
    refine ⟨_, _, hrun, ⟨g, off, cap, by rw [List.length_append], h1, by rw [size_setCells]; exact h2, by rw [List.length_append]; exact hfit, h4, fun j hj => ?_, fun j hj => ?_⟩, below_setCells h1 _ _ _⟩
    · rw [get_app]
      rw [List.length_append] at hj
      by_cases hjl : j < l.length
      · rw [if_pos hjl, World.cell?_setCells_out g _ _ _ _ (fun _ _ => Or.inl (by show off + j < off + l.length; omega))]
        exact h5 j hjl
      · rw [if_neg hjl]
        have := World.cell?_setCells_in g (ints k) (off + l.length) w hsome (j - l.length) (by rw [length_ints]; omega)
        rw [show off + l.length + (j - l.length) = off + j by omega] at this
        rw [this]
        simp only [ints, List.getElem_map]
        rw [getElem!_pos k (j - l.length) (by omega)]
    · rw [World.frozen?_setCells]
      refine ⟨?_, (h6 j hj).2⟩
      by_cases hjl : off + l.length ≤ off + j ∧ off + j < off + l.length + (ints k).length
      · have := World.cell?_setCells_in g (ints k) (off + l.length) w hsome (j - l.length) (by omega)
        rw [show off + l.length + (j - l.length) = off + j by omega] at this
        rw [this]; rfl
      · rw [World.cell?_setCells_out g _ _ _ _ (fun _ _ => by show off + j < off + l.length ∨ off + l.length + (ints k).length ≤ off + j; omega)]
        exact (h6 j hj).1
  · have hold : (Builtin.firstCells i.size l.length (.slice (some ⟨g, off, none⟩) l.length cap)).run P w.drew = .ok (ints l).toArray w.drew := by
      refine run_firstCells_some w.drew i.size l.length ⟨g, off, none⟩ l.length cap (ints l) (by rw [hsize]; simp) (fun j u hu => ?_)
      have hj : j < l.length := by
        rcases Nat.lt_or_ge j l.length with h | h
        · exact h
        · rw [List.getElem?_eq_none (by simpa using h)] at hu; cases hu
      rw [add_at rfl]
      show w.cell? ⟨g, off + j, none⟩ = some u
      rw [h5 j hj, ← hu, ints, List.getElem?_map, List.getElem?_eq_getElem hj, getElem!_pos l j hj]
      rfl
    have hge := grownCap_ge w (l.length + k.length) cap e
    have hcm := grownCap_le_maxLen w (l.length + k.length) cap e (by unfold maxLen; omega)
    have hrun := run_append_grow_src (P := P) w t t ty e i z ht hi hz (some ⟨g, off, none⟩) l.length cap (ints l) hold _ k.length (ints k) hs (by omega) (by omega) (by rw [hby]; exact growslice_fits (by omega) (by omega))
    have hL : (ints l ++ ints k).length = l.length + k.length := by simp
    refine ⟨_, _, hrun, ⟨w.heap.size, 0, _, by rw [List.length_append], hbase, by simp, by rw [List.length_append]; omega, hcm, fun j hj => ?_, fun j hj => ?_⟩, ((Below.refl base w).drew).alloc (by simpa using hbase) _⟩
    · rw [List.length_append] at hj
      rw [Nat.zero_add]
      have e1 : (w.drew.alloc (.cells ((ints l ++ ints k).toArray ++ Builtin.zeroCells z.cells (grownCap w (l.length + k.length) cap e - (l.length + k.length))) e)).cell? ⟨w.heap.size, j, none⟩ = _ := World.cell?_alloc_new w.drew _ _ j
      rw [e1, Array.getElem?_append_left (by simp only [List.size_toArray]; omega), List.getElem?_toArray, ← show ints (l ++ k) = ints l ++ ints k from by simp [ints], ints, List.getElem?_map, List.getElem?_eq_getElem (by rw [List.length_append]; omega), getElem!_pos (l ++ k) j (by rw [List.length_append]; omega)]
      rfl
    · rw [Nat.zero_add]
      have e1 : (w.drew.alloc (.cells ((ints l ++ ints k).toArray ++ Builtin.zeroCells z.cells (grownCap w (l.length + k.length) cap e - (l.length + k.length))) e)).cell? ⟨w.heap.size, j, none⟩ = _ := World.cell?_alloc_new w.drew _ _ j
      have hsz : ((ints l ++ ints k).toArray ++ Builtin.zeroCells z.cells (grownCap w (l.length + k.length) cap e - (l.length + k.length))).size = grownCap w (l.length + k.length) cap e := by
        rw [Array.size_append, List.size_toArray, hL, size_zeroCells, hzs]; omega
      refine ⟨?_, World.frozen?_alloc_new w.drew _ _ j⟩
      rw [e1, Array.getElem?_eq_getElem (by rw [hsz]; exact hj)]
      rfl
end Go.KD
namespace Go
open Go.RowKit Go.KD
theorem step_append_queue {P : Program} (w : World) {ops : Array Oper} {o : Oper} {a : Act} {K : Act → World → Prop} {Q : Exit → Act → World → Prop} {E : Prop} (hgd : o.guard = none) (s x : Operand) (t : TypeId)
    (ho : o.op = .call { callee := .builtin .append, args := #[s, x], argTypes := #[t, t] })
    (e : TypeId) (i : TypeInfo) (z : Value) (ht : P.underlying t = some (.slice e)) (hi : P.info? e = some i) (hz : i.zero = some z) (hsize : i.size = 1) (hby : i.bytes = 8) (hzs : z.cells.size = 1)
    (base : Nat) (v : Value) (l : List Int) (hs : a.eval s = v) (hq : QAt base w v l) (ad : Option Addr) (c : Nat) (k : List Int) (hx : a.eval x = .slice ad k.length c) (hk : IC w ad k) (hl : l.length + k.length ≤ 1000000) (hbase : base ≤ w.heap.size)
    (h : ∀ v' w', QAt base w' v' (l ++ k) → Below base w w' → K (a.put o.dst v') w') :
    if Region.wanted o (yielded ops a.tmps) = true then Oper.wp P o a w K Q else E := by
  have hw : Region.wanted o (yielded ops a.tmps) = true := by simp [Region.wanted, hgd]
  rw [if_pos hw]
  obtain ⟨v', w', hr, h2, h3⟩ := run_append_queue (P := P) w t o.type e i z ht hi hz hsize hby hzs base v l hq ad c k hk hl hbase
  unfold Oper.wp execOp
  simp only [ho, resolve, invoke, builtin, Sem.run_bind, Sem.run_pure, Result.andThen_ok, List.map_toArray, List.map_cons, List.map_nil, hs, hx, hr]
  exact h v' w' h2 h3
end Go
