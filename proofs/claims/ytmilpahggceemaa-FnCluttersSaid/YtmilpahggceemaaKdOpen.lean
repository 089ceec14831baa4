/- What an argument of a law reads as: slices of numbers, of rows of three and of four numbers, mazes and works. No program is named here. -/
import Derived.Test.YtmilpahggceemaaKdMore
import Derived.ProofKit
import Derived.OpenShut
import Derived.ChangeOld
import Derived.Lib.SmallJoins
import Derived.Deep.Slices
namespace Go.KD
open Go.RowKit Go.ChangeShapes Go.WideShapes Go.ChangeAt Go.Joins Go.Deep
variable {H : Type} {enc : TypeId × Value → H} {P : Program} {w : World} {base : Nat} {held : Bool}
def wfI (n : Int) : Prop := (Lit.int .i64 n).wf = true
theorem mapM_get {α β : Type} {f : α → Option β} : ∀ {l : List α} {r : List β}, l.mapM f = some r → ∀ i (h : i < l.length), ∃ y, f l[i] = some y ∧ r[i]? = some y
  | [], r, _, i, h => by simp at h
  | a :: l, r, hm, i, h => by
    simp only [List.mapM_cons, Option.pure_def, Option.bind_eq_bind, Option.bind_eq_some_iff, Option.some.injEq] at hm
    obtain ⟨y, hy, ys, hys, rfl⟩ := hm
    cases i with
    | zero => exact ⟨y, hy, rfl⟩
    | succ i =>
      obtain ⟨z, hz, hz'⟩ := mapM_get hys i (by simpa using h)
      exact ⟨z, by simpa using hz, by simpa using hz'⟩
theorem cells_at {a : Addr} {n : Nat} {cs : List Value} (h : w.cells? base a n = some cs) (i : Nat) (hi : i < n) : w.cell? (a.add i) = cs[i]? := by
  unfold World.cells? at h
  split at h
  · obtain ⟨y, hy, hr⟩ := mapM_get h i (by simpa using hi)
    rw [hr, ← hy]; simp
  · cases h
theorem add_at {b off n : Nat} {a : Addr} (h : a = ⟨b, off, none⟩) : a.add n = ⟨b, off + n, none⟩ := by
  subst h; unfold Addr.add; split
  · rename_i h; subst h; rfl
  · rfl
theorem add_add {a : Addr} (hs : a.spot = none) (m n : Nat) : (a.add m).add n = ⟨a.block, a.off + m + n, none⟩ := by
  obtain ⟨b, off, sp⟩ := a
  simp only at hs; subst hs
  rw [add_at (a := ⟨b, off, none⟩) rfl, add_at rfl]
theorem open_ic {t e : TypeId} {fuel : Nat} {v : Value} {x : DataW H × List MemPlace} (ht : P.underlying t = some (.slice e)) (he : P.underlying e = some (.int .i64)) (hc : P.cellsOf e = 1)
    (h : DataW.trod enc P w base (fun _ => true) held fuel t [v] = some x) :
    ∃ a cap, ∃ l : List Int, v = .slice a l.length cap ∧ l.length ≤ maxLen ∧ IC w a l ∧ ∀ n ∈ l, wfI n := by
  rcases open_ints ht he hc h with ⟨hcs, _⟩ | ⟨a, len, cap, zs, hcs, _, hl, hm, hz, _, hcell, hwf⟩
  · simp only [List.cons.injEq, and_true] at hcs
    exact ⟨none, 0, [], hcs, by unfold maxLen; simp, fun k hk => by simp at hk, fun n hn => by simp at hn⟩
  · simp only [List.cons.injEq, and_true] at hcs
    simp only [if_true] at hz
    refine ⟨some a, cap, zs.take len, by rw [List.length_take, Nat.min_eq_left (by omega)]; exact hcs, by simp; omega, fun k hk => ?_, fun n hn => hwf n (List.mem_of_mem_take hn)⟩
    simp only [List.length_take] at hk
    have hk' : k < zs.length := by omega
    have c := hcell k hk'
    have hsp : (a.add k).spot = none := World.cell?_spot c
    have hbl := World.block_lt_of_cell? w _ c
    have ha0 := World.cell?_spot (hcell 0 (by omega))
    have ha : a.spot = none := by unfold Addr.add at ha0; rw [if_pos rfl] at ha0; exact ha0
    obtain ⟨b, off, sp⟩ := a
    simp only at ha; subst ha
    rw [add_at (a := ⟨b, off, none⟩) rfl] at c hbl
    refine ⟨b, off, rfl, hbl, ?_⟩
    rw [c, getElem!_pos _ k (by simp; omega), List.getElem_take]
    simp [List.getD_eq_getElem?_getD, List.getElem?_eq_getElem hk']
theorem arr_cells {e i n m : Nat} {cs : List Value} {y : DataW H × List MemPlace} (he : P.underlying e = some (.array n i)) (hi : P.underlying i = some (.int .i64)) (hc : P.cellsOf i = 1)
    (h : DataW.trod enc P w base (fun _ => true) held m e cs = some y) : ∀ j, j < n → ∃ z, cs[j]? = some (.int .i64 z) ∧ wfI z := by
  obtain ⟨xs, m', rfl, _, _, hx, hj⟩ := DataW.trod_array he h
  intro j hjn
  have := hj j hjn
  rw [hc, Nat.mul_one, List.getElem?_eq_getElem (by omega)] at this
  obtain ⟨z, hz, _, hw⟩ := DataW.trod_int hi this
  refine ⟨z, ?_, hw⟩
  have h0 : ((cs.drop j).take 1)[0]? = some (.int .i64 z) := by rw [hz]; rfl
  simpa [List.getElem?_take, List.getElem?_drop] using h0
theorem list_of {α : Type} [Inhabited α] {p : Nat → α → Prop} {n : Nat} (h : ∀ k, k < n → ∃ x, p k x) : ∃ l : List α, l.length = n ∧ ∀ k, k < n → p k l[k]! := by
  refine ⟨(List.range n).attach.map fun k => (h k.1 (by simpa using k.2)).choose, by simp, fun k hk => ?_⟩
  rw [getElem!_pos _ k (by simpa using hk)]
  simp only [List.getElem_map, List.getElem_attach, List.getElem_range]
  exact (h k hk).choose_spec
theorem open_d4 {t e i : TypeId} {fuel : Nat} {v : Value} {x : DataW H × List MemPlace} (ht : P.underlying t = some (.slice e)) (he : P.underlying e = some (.array 4 i)) (hi : P.underlying i = some (.int .i64)) (hc : P.cellsOf e = 4) (hci : P.cellsOf i = 1)
    (h : DataW.trod enc P w base (fun _ => true) held fuel t [v] = some x) :
    ∃ a cap, ∃ l : List D4, v = .slice a l.length cap ∧ l.length ≤ maxLen ∧ D4C w a l ∧ ∀ d ∈ l, wfI d.1 ∧ wfI d.2.1 ∧ wfI d.2.2.1 ∧ wfI d.2.2.2 := by
  rcases open_slice ht h with ⟨hcs, _⟩ | ⟨a, len, cap, m, n, D, Pl, hcs, _, hl, hm, hmm, _, hel⟩
  · simp only [List.cons.injEq, and_true] at hcs
    exact ⟨none, 0, [], hcs, by unfold maxLen; simp, fun k hk => by simp at hk, fun n hn => by simp at hn⟩
  · simp only [List.cons.injEq, and_true] at hcs
    simp only [if_true] at hmm
    subst hmm
    have each : ∀ k, k < len → ∃ d : D4, (∃ b off, some a = some ⟨b, off, none⟩ ∧ b < w.heap.size ∧ w.cell? ⟨b, off + k * 4, none⟩ = some (.int .i64 d.1) ∧ w.cell? ⟨b, off + k * 4 + 1, none⟩ = some (.int .i64 d.2.1) ∧ w.cell? ⟨b, off + k * 4 + 2, none⟩ = some (.int .i64 d.2.2.1) ∧ w.cell? ⟨b, off + k * 4 + 3, none⟩ = some (.int .i64 d.2.2.2)) ∧ wfI d.1 ∧ wfI d.2.1 ∧ wfI d.2.2.1 ∧ wfI d.2.2.2 := by
      intro k hk
      obtain ⟨cs', hcs', htr⟩ := hel k (by omega)
      rw [hc] at hcs'
      have hz := arr_cells he hi hci htr
      obtain ⟨z0, h0, w0⟩ := hz 0 (by omega)
      obtain ⟨z1, h1, w1⟩ := hz 1 (by omega)
      obtain ⟨z2, h2, w2⟩ := hz 2 (by omega)
      obtain ⟨z3, h3, w3⟩ := hz 3 (by omega)
      have c0 := (cells_at hcs' 0 (by omega)).trans h0
      have c1 := (cells_at hcs' 1 (by omega)).trans h1
      have c2 := (cells_at hcs' 2 (by omega)).trans h2
      have c3 := (cells_at hcs' 3 (by omega)).trans h3
      have hs0 := World.cell?_spot c0
      have ha : a.spot = none := by
        obtain ⟨cs0, hcs0, htr0⟩ := hel 0 (by omega)
        rw [hc] at hcs0
        obtain ⟨z, hz0, _⟩ := arr_cells he hi hci htr0 0 (by omega)
        have := World.cell?_spot ((cells_at hcs0 0 (by omega)).trans hz0)
        unfold Addr.add at this
        simpa using this
      have hb := World.block_lt_of_cell? w _ c1
      rw [add_add ha] at c0 c1 c2 c3 hb
      obtain ⟨b, off, sp⟩ := a
      simp only at ha; subst ha
      exact ⟨(z0, z1, z2, z3), ⟨b, off, rfl, hb, c0, c1, c2, c3⟩, w0, w1, w2, w3⟩
    obtain ⟨l, hlen, hp⟩ := list_of each
    refine ⟨some a, _, l, by rw [hlen]; exact hcs, by omega, fun k hk => (hp k (by omega)).1, fun d hd => ?_⟩
    obtain ⟨k, hk, rfl⟩ := List.mem_iff_getElem.1 hd
    have := (hp k (by omega)).2
    rwa [getElem!_pos l k hk] at this
theorem open_d3 {t e i : TypeId} {fuel : Nat} {v : Value} {x : DataW H × List MemPlace} (ht : P.underlying t = some (.slice e)) (he : P.underlying e = some (.array 3 i)) (hi : P.underlying i = some (.int .i64)) (hc : P.cellsOf e = 3) (hci : P.cellsOf i = 1)
    (h : DataW.trod enc P w base (fun _ => true) held fuel t [v] = some x) :
    ∃ a cap, ∃ l : List D3, v = .slice a l.length cap ∧ l.length ≤ maxLen ∧ D3C w a l ∧ ∀ d ∈ l, wfI d.1 ∧ wfI d.2.1 ∧ wfI d.2.2 := by
  rcases open_slice ht h with ⟨hcs, _⟩ | ⟨a, len, cap, m, n, D, Pl, hcs, _, hl, hm, hmm, _, hel⟩
  · simp only [List.cons.injEq, and_true] at hcs
    exact ⟨none, 0, [], hcs, by unfold maxLen; simp, fun k hk => by simp at hk, fun n hn => by simp at hn⟩
  · simp only [List.cons.injEq, and_true] at hcs
    simp only [if_true] at hmm
    subst hmm
    have each : ∀ k, k < len → ∃ d : D3, (∃ b off, some a = some ⟨b, off, none⟩ ∧ b < w.heap.size ∧ w.cell? ⟨b, off + k * 3, none⟩ = some (.int .i64 d.1) ∧ w.cell? ⟨b, off + k * 3 + 1, none⟩ = some (.int .i64 d.2.1) ∧ w.cell? ⟨b, off + k * 3 + 2, none⟩ = some (.int .i64 d.2.2)) ∧ wfI d.1 ∧ wfI d.2.1 ∧ wfI d.2.2 := by
      intro k hk
      obtain ⟨cs', hcs', htr⟩ := hel k (by omega)
      rw [hc] at hcs'
      have hz := arr_cells he hi hci htr
      obtain ⟨z0, h0, w0⟩ := hz 0 (by omega)
      obtain ⟨z1, h1, w1⟩ := hz 1 (by omega)
      obtain ⟨z2, h2, w2⟩ := hz 2 (by omega)
      have c0 := (cells_at hcs' 0 (by omega)).trans h0
      have c1 := (cells_at hcs' 1 (by omega)).trans h1
      have c2 := (cells_at hcs' 2 (by omega)).trans h2
      have ha : a.spot = none := by
        obtain ⟨cs0, hcs0, htr0⟩ := hel 0 (by omega)
        rw [hc] at hcs0
        obtain ⟨z, hz0, _⟩ := arr_cells he hi hci htr0 0 (by omega)
        have := World.cell?_spot ((cells_at hcs0 0 (by omega)).trans hz0)
        unfold Addr.add at this
        simpa using this
      have hb := World.block_lt_of_cell? w _ c1
      rw [add_add ha] at c0 c1 c2 hb
      obtain ⟨b, off, sp⟩ := a
      simp only at ha; subst ha
      exact ⟨(z0, z1, z2), ⟨b, off, rfl, hb, c0, c1, c2⟩, w0, w1, w2⟩
    obtain ⟨l, hlen, hp⟩ := list_of each
    refine ⟨some a, _, l, by rw [hlen]; exact hcs, by omega, fun k hk => (hp k (by omega)).1, fun d hd => ?_⟩
    obtain ⟨k, hk, rfl⟩ := List.mem_iff_getElem.1 hd
    have := (hp k (by omega)).2
    rwa [getElem!_pos l k hk] at this
end Go.KD
