/- Words shared by the walks of this seat: readings of slices of numbers and of rows of three and four numbers, worlds that agree below a block, a region walked once at such worlds. No program is named here. -/
import Derived.WalkKit
import Derived.Below
import Derived.Deep.Draws
import Derived.OwnWalk
import Derived.Deep.LoopGhost
import Derived.Deep.QuietTactic
import Derived.BigQuiet
import Derived.KernelRfl
import Derived.RowKit3
import Derived.Outline
import Derived.Lib.Hide
import Derived.LoopN
import Derived.Laws.AppendOwn
import Derived.StillTailTactics
import Derived.Laws.OwnMore
import Derived.Laws.MakeOwn
import Derived.Deep.AppendLies
import Derived.Maps.AppendAt
namespace Go.KD
open Go.RowKit

theorem ret_bool {a b : Bool} (h : a = b) : Ending.returned (.bool a) = .returned (.bool b) := by rw [h]
theorem ret_int {k : IntKind} {a b : Int} (h : a = b) : Ending.returned (.int k a) = .returned (.int k b) := by rw [h]
theorem bcell {W w1 : World} {B : Nat} (hb : Below B W w1) : (∀ b o, b < B → w1.cell? ⟨b, o, none⟩ = W.cell? ⟨b, o, none⟩) ∧ (∀ b o, b < B → w1.frozen? ⟨b, o, none⟩ = W.frozen? ⟨b, o, none⟩) :=
  ⟨fun b o h => hb.cell (p := ⟨b, o, none⟩) h, fun b o h => hb.frozen (p := ⟨b, o, none⟩) h⟩
theorem below_drewN {B : Nat} {a w : World} (h : Below B a w) (n : Nat) : Below B a (w.drewN n) := h.trans ⟨rfl, rfl, rfl, Nat.le_refl _, fun _ _ => rfl⟩
theorem below_then {w w1 w2 : World} (h : Below w.heap.size w w1) (k : Below w1.heap.size w1 w2) : Below w.heap.size w w2 := h.trans (k.mono h.size)

/-! ### Worlds that agree below a block -/
def Later (w : World) (B : Nat) : Type := { w' : World // Below B w w' }
instance (w : World) (B : Nat) : Nonempty (Later w B) := ⟨⟨w, Below.refl B w⟩⟩
theorem later_cell {w : World} {B : Nat} (k : Later w B) (b o : Nat) (h : b < B) : k.1.cell? ⟨b, o, none⟩ = w.cell? ⟨b, o, none⟩ := k.2.cell (p := ⟨b, o, none⟩) h
theorem later_frozen {w : World} {B : Nat} (k : Later w B) (b o : Nat) (h : b < B) : k.1.frozen? ⟨b, o, none⟩ = w.frozen? ⟨b, o, none⟩ := k.2.frozen (p := ⟨b, o, none⟩) h
/-- A region that draws its order, whose operations read below B and whose calls change nothing below B: walked once. -/
theorem wp_region_later {P : Program} {id : Nat} {Q : Exit → Act → World → Prop} {a : Act} {w : World} {l : List Oper} (B : Nat) (hm : P.follows .mixedOrders = true) (hB : Region.lexB .any l.toArray = true)
    (h : wpQuiet P l.toArray (fun w' => ∃ k : Later w B, w' = k.1) (fun a' => ∀ w', (∃ k : Later w B, w' = k.1) → Q .normal a' w') l a) : (Code.region id l.toArray true).wp P Q a w :=
  wp_region_quiet (C := fun w' => ∃ k : Later w B, w' = k.1) hm hB ⟨⟨_, (Below.refl B w).drew⟩, rfl⟩ (by simpa using h)
theorem Calls.later_of {P : Program} {f : FuncId} {args : Array Value} {w : World} {B : Nat} {k : Later w B} {v : Value} (hB : B ≤ w.heap.size)
    (h : Calls P f args k.1 fun e w' => e = .returned v ∧ Below k.1.heap.size k.1 w') : Calls P f args k.1 fun e w'' => e = .returned v ∧ ∃ m : Later w B, w'' = m.1 :=
  h.mono fun _ w' ⟨he, hm⟩ => ⟨he, ⟨w', k.2.trans (hm.mono (Nat.le_trans hB k.2.size))⟩, rfl⟩
theorem Calls.later_same {P : Program} {f : FuncId} {args : Array Value} {w : World} {B : Nat} {k : Later w B} {v : Value}
    (h : Calls P f args k.1 fun e w' => e = .returned v ∧ k.1 = w') : Calls P f args k.1 fun e w'' => e = .returned v ∧ ∃ m : Later w B, w'' = m.1 :=
  h.mono fun _ _ ⟨he, hm⟩ => ⟨he, k, hm.symm⟩

/-- A region whose first n operations read, and whose others stand in one order: walked once. -/
theorem wp_region_tail {P : Program} {id : Nat} {Q : Exit → Act → World → Prop} {a : Act} {w : World} {l : List Oper} (n : Nat) (hm : P.follows .mixedOrders = true) (hB : Region.lexTailB .any l.toArray n = true)
    (h : wpStill P l.toArray w.drew (fun a' => wpList P l.toArray Q (l.drop n) a' w.drew) (l.take n) a) : (Code.region id l.toArray true).wp P Q a w :=
  wp_region_still_tail n hm hB h
/-! ### Readings -/
abbrev D3 := Int × Int × Int
abbrev D4 := Int × Int × Int × Int
/-- The cells of a slice of numbers. -/
def IC (w : World) (a : Option Addr) (l : List Int) : Prop :=
  ∀ k, k < l.length → ∃ b off, a = some ⟨b, off, none⟩ ∧ b < w.heap.size ∧ w.cell? ⟨b, off + k, none⟩ = some (.int .i64 l[k]!)
def D3C (w : World) (a : Option Addr) (l : List D3) : Prop :=
  ∀ k, k < l.length → ∃ b off, a = some ⟨b, off, none⟩ ∧ b < w.heap.size ∧
    w.cell? ⟨b, off + k * 3, none⟩ = some (.int .i64 (l[k]!).1) ∧ w.cell? ⟨b, off + k * 3 + 1, none⟩ = some (.int .i64 (l[k]!).2.1) ∧ w.cell? ⟨b, off + k * 3 + 2, none⟩ = some (.int .i64 (l[k]!).2.2)
def D4C (w : World) (a : Option Addr) (l : List D4) : Prop :=
  ∀ k, k < l.length → ∃ b off, a = some ⟨b, off, none⟩ ∧ b < w.heap.size ∧
    w.cell? ⟨b, off + k * 4, none⟩ = some (.int .i64 (l[k]!).1) ∧ w.cell? ⟨b, off + k * 4 + 1, none⟩ = some (.int .i64 (l[k]!).2.1) ∧ w.cell? ⟨b, off + k * 4 + 2, none⟩ = some (.int .i64 (l[k]!).2.2.1) ∧ w.cell? ⟨b, off + k * 4 + 3, none⟩ = some (.int .i64 (l[k]!).2.2.2)
theorem IC.at {w : World} {a : Option Addr} {l : List Int} (h : IC w a l) (k : Nat) (hk : k < l.length) : ∃ b off x, a = some ⟨b, off, none⟩ ∧ Hid (l[k]! = x) ∧ b < w.heap.size ∧ w.cell? ⟨b, off + k, none⟩ = some (.int .i64 x) := by
  obtain ⟨b, off, h⟩ := h k hk
  exact ⟨b, off, _, h.1, rfl, h.2⟩
theorem D3C.at {w : World} {a : Option Addr} {l : List D3} (h : D3C w a l) (k : Nat) (hk : k < l.length) : ∃ b off x y z, a = some ⟨b, off, none⟩ ∧ Hid (l[k]! = (x, y, z)) ∧ b < w.heap.size ∧
    w.cell? ⟨b, off + k * 3, none⟩ = some (.int .i64 x) ∧ w.cell? ⟨b, off + k * 3 + 1, none⟩ = some (.int .i64 y) ∧ w.cell? ⟨b, off + k * 3 + 2, none⟩ = some (.int .i64 z) := by
  obtain ⟨b, off, h⟩ := h k hk
  exact ⟨b, off, _, _, _, h.1, rfl, h.2⟩
theorem D4C.at {w : World} {a : Option Addr} {l : List D4} (h : D4C w a l) (k : Nat) (hk : k < l.length) : ∃ b off x y z u, a = some ⟨b, off, none⟩ ∧ Hid (l[k]! = (x, y, z, u)) ∧ b < w.heap.size ∧
    w.cell? ⟨b, off + k * 4, none⟩ = some (.int .i64 x) ∧ w.cell? ⟨b, off + k * 4 + 1, none⟩ = some (.int .i64 y) ∧ w.cell? ⟨b, off + k * 4 + 2, none⟩ = some (.int .i64 z) ∧ w.cell? ⟨b, off + k * 4 + 3, none⟩ = some (.int .i64 u) := by
  obtain ⟨b, off, h⟩ := h k hk
  exact ⟨b, off, _, _, _, _, h.1, rfl, h.2⟩
theorem IC.later {w w' : World} {a : Option Addr} {l : List Int} (h : IC w a l) (hb : Below w.heap.size w w') : IC w' a l := by
  intro k hk
  obtain ⟨b, off, ha, hbs, c0⟩ := h k hk
  obtain ⟨hc, hf⟩ := bcell hb
  exact ⟨b, off, ha, by have := hb.size; omega, (hc _ _ hbs).trans c0⟩
theorem D3C.later {w w' : World} {a : Option Addr} {l : List D3} (h : D3C w a l) (hb : Below w.heap.size w w') : D3C w' a l := by
  intro k hk
  obtain ⟨b, off, ha, hbs, c0, c1, c2⟩ := h k hk
  obtain ⟨hc, hf⟩ := bcell hb
  exact ⟨b, off, ha, by have := hb.size; omega, (hc _ _ hbs).trans c0, (hc _ _ hbs).trans c1, (hc _ _ hbs).trans c2⟩
theorem D4C.later {w w' : World} {a : Option Addr} {l : List D4} (h : D4C w a l) (hb : Below w.heap.size w w') : D4C w' a l := by
  intro k hk
  obtain ⟨b, off, ha, hbs, c0, c1, c2, c3⟩ := h k hk
  obtain ⟨hc, hf⟩ := bcell hb
  exact ⟨b, off, ha, by have := hb.size; omega, (hc _ _ hbs).trans c0, (hc _ _ hbs).trans c1, (hc _ _ hbs).trans c2, (hc _ _ hbs).trans c3⟩
theorem take_succ_eq {α : Type} [Inhabited α] {l m : List α} {k : Nat} (h1 : k < l.length) (h2 : k < m.length) (h : l.take k = m.take k) (he : l[k]! = m[k]!) : l.take (k+1) = m.take (k+1) := by
  rw [List.take_succ_eq_append_getElem h1, List.take_succ_eq_append_getElem h2, h]
  rw [getElem!_pos l k h1, getElem!_pos m k h2] at he
  rw [he]
theorem take_snoc {α : Type} [Inhabited α] {l : List α} {k : Nat} (h1 : k < l.length) : l.take (k+1) = l.take k ++ [l[k]!] := by
  rw [List.take_succ_eq_append_getElem h1, getElem!_pos l k h1]

/-! ### Rows that a call owns -/
def ints (l : List Int) : List Value := l.map (.int .i64)
def c3 (l : List D3) : List Value := l.flatMap fun d => [.int .i64 d.1, .int .i64 d.2.1, .int .i64 d.2.2]
def c4 (l : List D4) : List Value := l.flatMap fun d => [.int .i64 d.1, .int .i64 d.2.1, .int .i64 d.2.2.1, .int .i64 d.2.2.2]
@[simp] theorem length_ints (l : List Int) : (ints l).length = l.length := by simp [ints]
theorem length_c3 (l : List D3) : (c3 l).length = l.length * 3 := by
  induction l with
  | nil => rfl
  | cons d l ih => simp only [c3, List.flatMap_cons, List.length_append, List.length_cons] at *; simp at *; omega
theorem length_c4 (l : List D4) : (c4 l).length = l.length * 4 := by
  induction l with
  | nil => rfl
  | cons d l ih => simp only [c4, List.flatMap_cons, List.length_append, List.length_cons] at *; simp at *; omega
theorem get_c3 (l : List D3) : ∀ (k : Nat), k < l.length → (c3 l)[k * 3]? = some (.int .i64 (l[k]!).1) ∧ (c3 l)[k * 3 + 1]? = some (.int .i64 (l[k]!).2.1) ∧ (c3 l)[k * 3 + 2]? = some (.int .i64 (l[k]!).2.2) := by
  induction l with
  | nil => intro k h; simp at h
  | cons d l ih =>
    intro k h
    cases k with
    | zero => simp [c3]
    | succ k =>
      have := ih k (by simpa using h)
      simp only [c3, List.flatMap_cons, List.getElem!_cons_succ] at *
      have e : (k + 1) * 3 = k * 3 + 3 := by omega
      rw [e]
      simpa using this
theorem get_c4 (l : List D4) : ∀ (k : Nat), k < l.length → (c4 l)[k * 4]? = some (.int .i64 (l[k]!).1) ∧ (c4 l)[k * 4 + 1]? = some (.int .i64 (l[k]!).2.1) ∧ (c4 l)[k * 4 + 2]? = some (.int .i64 (l[k]!).2.2.1) ∧ (c4 l)[k * 4 + 3]? = some (.int .i64 (l[k]!).2.2.2) := by
  induction l with
  | nil => intro k h; simp at h
  | cons d l ih =>
    intro k h
    cases k with
    | zero => simp [c4]
    | succ k =>
      have := ih k (by simpa using h)
      simp only [c4, List.flatMap_cons, List.getElem!_cons_succ] at *
      have e : (k + 1) * 4 = k * 4 + 4 := by omega
      rw [e]
      simpa using this
/-- An owned row: its block lies in [lo, hi). -/
structure Own (lo hi : Nat) (w : World) (e : TypeId) (size : Nat) (v : Value) (n : Nat) (xs : List Value) : Prop where
  row : w.ownsRow lo e size v n xs
  top : ∀ g, v.ownBlock = some g → g < hi
theorem Own.form {lo hi size n : Nat} {w : World} {e : TypeId} {v : Value} {xs : List Value} (h : Own lo hi w e size v n xs) :
    ∃ a cap, v = .slice a n cap ∧ n ≤ maxLen ∧ ∀ j, j < n * size → ∃ g, a = some ⟨g, 0, none⟩ ∧ lo ≤ g ∧ g < hi ∧ g < w.heap.size ∧ w.cell? ⟨g, j, none⟩ = xs[j]? ∧ w.frozen? ⟨g, j, none⟩ = false := by
  obtain ⟨⟨hl, h1⟩, ht⟩ := h
  rcases h1 with ⟨rfl, rfl⟩ | ⟨g, cap, cur, rfl, hg, hh, hn, hm, hc, hx⟩
  · exact ⟨none, 0, rfl, by unfold maxLen; omega, fun j hj => by omega⟩
  · refine ⟨_, cap, rfl, Nat.le_trans hn hm, fun j hj => ⟨g, rfl, hg, ht g rfl, ?_, ?_, ?_⟩⟩
    · rcases Nat.lt_or_ge g w.heap.size with h | h
      · exact h
      · rw [Array.getElem?_eq_none h] at hh; cases hh
    · simp only [World.cell?, hh]
      rw [← hx, List.getElem?_take, if_pos hj]
      simp
    · simp [World.frozen?, hh]
theorem Own.ic {lo hi : Nat} {w : World} {e : TypeId} {v : Value} {l : List Int} (h : Own lo hi w e 1 v l.length (ints l)) : ∃ a cap, v = .slice a l.length cap ∧ l.length ≤ maxLen ∧ IC w a l := by
  obtain ⟨a, cap, rfl, hm, hj⟩ := h.form
  refine ⟨a, cap, rfl, hm, fun k hk => ?_⟩
  obtain ⟨g, ha, _, _, hs, hc, _⟩ := hj k (by omega)
  refine ⟨g, 0, ha, hs, ?_⟩
  rw [Nat.zero_add, hc, ints, List.getElem?_map, getElem!_pos l k hk, List.getElem?_eq_getElem hk]
  rfl
theorem Own.d3 {lo hi : Nat} {w : World} {e : TypeId} {v : Value} {l : List D3} (h : Own lo hi w e 3 v l.length (c3 l)) : ∃ a cap, v = .slice a l.length cap ∧ l.length ≤ maxLen ∧ D3C w a l := by
  obtain ⟨a, cap, rfl, hm, hj⟩ := h.form
  refine ⟨a, cap, rfl, hm, fun k hk => ?_⟩
  obtain ⟨g, ha, _, _, hs, hc, _⟩ := hj (k * 3) (by omega)
  obtain ⟨g1, ha1, _, _, _, hc1, _⟩ := hj (k * 3 + 1) (by omega)
  obtain ⟨g2, ha2, _, _, _, hc2, _⟩ := hj (k * 3 + 2) (by omega)
  obtain rfl : g = g1 := by rw [ha] at ha1; simpa using ha1
  obtain rfl : g = g2 := by rw [ha] at ha2; simpa using ha2
  have := get_c3 l k hk
  exact ⟨g, 0, ha, hs, by rw [Nat.zero_add, hc, this.1], by rw [Nat.zero_add, hc1, this.2.1], by rw [Nat.zero_add, hc2, this.2.2]⟩
theorem Own.d4 {lo hi : Nat} {w : World} {e : TypeId} {v : Value} {l : List D4} (h : Own lo hi w e 4 v l.length (c4 l)) : ∃ a cap, v = .slice a l.length cap ∧ l.length ≤ maxLen ∧ D4C w a l := by
  obtain ⟨a, cap, rfl, hm, hj⟩ := h.form
  refine ⟨a, cap, rfl, hm, fun k hk => ?_⟩
  obtain ⟨g, ha, _, _, hs, hc, _⟩ := hj (k * 4) (by omega)
  obtain ⟨g1, ha1, _, _, _, hc1, _⟩ := hj (k * 4 + 1) (by omega)
  obtain ⟨g2, ha2, _, _, _, hc2, _⟩ := hj (k * 4 + 2) (by omega)
  obtain ⟨g3, ha3, _, _, _, hc3, _⟩ := hj (k * 4 + 3) (by omega)
  obtain rfl : g = g1 := by rw [ha] at ha1; simpa using ha1
  obtain rfl : g = g2 := by rw [ha] at ha2; simpa using ha2
  obtain rfl : g = g3 := by rw [ha] at ha3; simpa using ha3
  have := get_c4 l k hk
  exact ⟨g, 0, ha, hs, by rw [Nat.zero_add, hc, this.1], by rw [Nat.zero_add, hc1, this.2.1], by rw [Nat.zero_add, hc2, this.2.2.1], by rw [Nat.zero_add, hc3, this.2.2.2]⟩
theorem Own.size {lo hi size n : Nat} {w : World} {e : TypeId} {v : Value} {xs : List Value} (h : Own lo hi w e size v n xs) : xs.length = n * size := h.row.1
theorem Own.later {lo hi size n B : Nat} {w w' : World} {e : TypeId} {v : Value} {xs : List Value} (h : Own lo hi w e size v n xs) (hb : Below B w w') (hB : hi ≤ B) : Own lo hi w' e size v n xs := by
  obtain ⟨⟨hl, h1⟩, ht⟩ := h
  refine ⟨⟨hl, ?_⟩, ht⟩
  rcases h1 with h1 | ⟨g, cap, cur, hv, hg, hh, r⟩
  · exact .inl h1
  · exact .inr ⟨g, cap, cur, hv, hg, by rw [hb.block g (by have := ht g (by rw [hv]; rfl); omega)]; exact hh, r⟩
theorem Own.grown {lo hi size n : Nat} {w w' : World} {row : Option Nat} {e : TypeId} {v : Value} {xs : List Value} (h : Own lo hi w e size v n xs) (hb : w.grownBy w' row) (hr : ∀ g, row = some g → g < lo ∨ hi ≤ g) : Own lo hi w' e size v n xs := by
  obtain ⟨⟨hl, h1⟩, ht⟩ := h
  refine ⟨⟨hl, ?_⟩, ht⟩
  rcases h1 with h1 | ⟨g, cap, cur, hv, hg, hh, r⟩
  · exact .inl h1
  · refine .inr ⟨g, cap, cur, hv, hg, ?_, r⟩
    rw [hb.block g ?_ ?_]; exact hh
    · rcases Nat.lt_or_ge g w.heap.size with h | h
      · exact h
      · rw [Array.getElem?_eq_none h] at hh; cases hh
    · intro hk
      have := hr g hk.symm
      have := ht g (by rw [hv]; rfl)
      omega
theorem Own.mono {lo hi lo' hi' size n : Nat} {w : World} {e : TypeId} {v : Value} {xs : List Value} (h : Own lo hi w e size v n xs) (h1 : lo' ≤ lo) (h2 : hi ≤ hi') : Own lo' hi' w e size v n xs := by
  obtain ⟨⟨hl, h3⟩, ht⟩ := h
  refine ⟨⟨hl, ?_⟩, fun g hg => Nat.lt_of_lt_of_le (ht g hg) h2⟩
  rcases h3 with h3 | ⟨g, cap, cur, hv, hg, r⟩
  · exact .inl h3
  · exact .inr ⟨g, cap, cur, hv, Nat.le_trans h1 hg, r⟩
theorem Own.of {lo size n : Nat} {w : World} {e : TypeId} {v : Value} {xs : List Value} (h : w.ownsRow lo e size v n xs) : Own lo w.heap.size w e size v n xs := by
  refine ⟨h, fun g hg => ?_⟩
  obtain ⟨hl, h1⟩ := h
  rcases h1 with ⟨rfl, _⟩ | ⟨g', cap, cur, rfl, hg', hh, r⟩
  · cases hg
  · cases hg
    rcases Nat.lt_or_ge g' w.heap.size with h | h
    · exact h
    · rw [Array.getElem?_eq_none h] at hh; cases hh
theorem made3 (n : Nat) : (madeCells (Value.agg #[.int .i64 0, .int .i64 0, .int .i64 0]).cells (n * 3)).toList = c3 (List.replicate n (0, 0, 0)) := by
  apply List.ext_getElem?
  intro i
  rcases Nat.lt_or_ge i (n * 3) with h | h
  · have hk := get_c3 (List.replicate n ((0, 0, 0) : D3)) (i / 3) (by simp; omega)
    rw [getElem!_pos _ _ (by simp; omega)] at hk
    simp only [List.getElem_replicate] at hk
    have : i = i / 3 * 3 ∨ i = i / 3 * 3 + 1 ∨ i = i / 3 * 3 + 2 := by omega
    have e : (madeCells (Value.agg #[.int .i64 0, .int .i64 0, .int .i64 0]).cells (n * 3)).toList[i]? = some (.int .i64 0) := by
      simp [madeCells, Value.cells, h]
      have : i % 3 = 0 ∨ i % 3 = 1 ∨ i % 3 = 2 := by omega
      rcases this with h | h | h <;> simp [h]
    rw [e]
    rcases this with h | h | h <;> rw [h] <;> simp [hk]
  · rw [List.getElem?_eq_none (by simpa [madeCells] using h), List.getElem?_eq_none (by rw [length_c3]; simpa using h)]
theorem made4 (n : Nat) : (madeCells (Value.agg #[.int .i64 0, .int .i64 0, .int .i64 0, .int .i64 0]).cells (n * 4)).toList = c4 (List.replicate n (0, 0, 0, 0)) := by
  apply List.ext_getElem?
  intro i
  rcases Nat.lt_or_ge i (n * 4) with h | h
  · have hk := get_c4 (List.replicate n ((0, 0, 0, 0) : D4)) (i / 4) (by simp; omega)
    rw [getElem!_pos _ _ (by simp; omega)] at hk
    simp only [List.getElem_replicate] at hk
    have : i = i / 4 * 4 ∨ i = i / 4 * 4 + 1 ∨ i = i / 4 * 4 + 2 ∨ i = i / 4 * 4 + 3 := by omega
    have e : (madeCells (Value.agg #[.int .i64 0, .int .i64 0, .int .i64 0, .int .i64 0]).cells (n * 4)).toList[i]? = some (.int .i64 0) := by
      simp [madeCells, Value.cells, h]
      have : i % 4 = 0 ∨ i % 4 = 1 ∨ i % 4 = 2 ∨ i % 4 = 3 := by omega
      rcases this with h | h | h | h <;> simp [h]
    rw [e]
    rcases this with h | h | h | h <;> rw [h] <;> simp [hk]
  · rw [List.getElem?_eq_none (by simpa [madeCells] using h), List.getElem?_eq_none (by rw [length_c4]; simpa using h)]
theorem set_c3 (l : List D3) (d : D3) : ∀ k, k < l.length → c3 (l.set k d) = (((c3 l).set (k * 3) (.int .i64 d.1)).set (k * 3 + 1) (.int .i64 d.2.1)).set (k * 3 + 2) (.int .i64 d.2.2) := by
  induction l with
  | nil => intro k h; simp at h
  | cons x l ih =>
    intro k h
    cases k with
    | zero => simp [c3]
    | succ k =>
      have := ih k (by simpa using h)
      simp only [c3, List.set_cons_succ, List.flatMap_cons] at *
      rw [this, show (k + 1) * 3 = k * 3 + 3 from by omega]
      simp
theorem set_c4 (l : List D4) (d : D4) : ∀ k, k < l.length → c4 (l.set k d) = ((((c4 l).set (k * 4) (.int .i64 d.1)).set (k * 4 + 1) (.int .i64 d.2.1)).set (k * 4 + 2) (.int .i64 d.2.2.1)).set (k * 4 + 3) (.int .i64 d.2.2.2) := by
  induction l with
  | nil => intro k h; simp at h
  | cons x l ih =>
    intro k h
    cases k with
    | zero => simp [c4]
    | succ k =>
      have := ih k (by simpa using h)
      simp only [c4, List.set_cons_succ, List.flatMap_cons] at *
      rw [this, show (k + 1) * 4 = k * 4 + 4 from by omega]
      simp
/-- A cell of an owned row: it is there, it may be written. -/
theorem own_cell {w : World} {lo g n cap size : Nat} {e : TypeId} {xs : List Value} (h : w.ownsRow lo e size (.slice (some ⟨g, 0, none⟩) n cap) n xs) (j : Nat) (hj : j < n * size) :
    (∃ u, w.cell? ⟨g, j, none⟩ = some u) ∧ w.frozen? ⟨g, j, none⟩ = false := by
  refine ⟨⟨xs[j]'(by rw [h.1]; exact hj), ?_⟩, h.frozenAt _⟩
  rw [h.cellAt j hj, List.getElem?_eq_getElem]
theorem own_store3 {w : World} {lo g n cap : Nat} {e : TypeId} {l : List D3} (h : w.ownsRow lo e 3 (.slice (some ⟨g, 0, none⟩) n cap) n (c3 l)) (k : Nat) (hk : k < l.length) (x y z : Int) :
    (((w.setCell ⟨g, k * 3, none⟩ (.int .i64 x)).setCell ⟨g, k * 3 + 1, none⟩ (.int .i64 y)).setCell ⟨g, k * 3 + 2, none⟩ (.int .i64 z)).ownsRow lo e 3 (.slice (some ⟨g, 0, none⟩) n cap) n (c3 (l.set k (x, y, z))) ∧
    w.grownBy (((w.setCell ⟨g, k * 3, none⟩ (.int .i64 x)).setCell ⟨g, k * 3 + 1, none⟩ (.int .i64 y)).setCell ⟨g, k * 3 + 2, none⟩ (.int .i64 z)) (some g) := by
  obtain ⟨h1, g1⟩ := h.stored (k * 3) (.int .i64 x)
  obtain ⟨h2, g2⟩ := h1.stored (k * 3 + 1) (.int .i64 y)
  obtain ⟨h3, g3⟩ := h2.stored (k * 3 + 2) (.int .i64 z)
  rw [set_c3 l (x, y, z) k hk]
  exact ⟨h3, (g1.trans g2).trans g3⟩
theorem own_store4 {w : World} {lo g n cap : Nat} {e : TypeId} {l : List D4} (h : w.ownsRow lo e 4 (.slice (some ⟨g, 0, none⟩) n cap) n (c4 l)) (k : Nat) (hk : k < l.length) (x y z u : Int) :
    ((((w.setCell ⟨g, k * 4, none⟩ (.int .i64 x)).setCell ⟨g, k * 4 + 1, none⟩ (.int .i64 y)).setCell ⟨g, k * 4 + 2, none⟩ (.int .i64 z)).setCell ⟨g, k * 4 + 3, none⟩ (.int .i64 u)).ownsRow lo e 4 (.slice (some ⟨g, 0, none⟩) n cap) n (c4 (l.set k (x, y, z, u))) ∧
    w.grownBy ((((w.setCell ⟨g, k * 4, none⟩ (.int .i64 x)).setCell ⟨g, k * 4 + 1, none⟩ (.int .i64 y)).setCell ⟨g, k * 4 + 2, none⟩ (.int .i64 z)).setCell ⟨g, k * 4 + 3, none⟩ (.int .i64 u)) (some g) := by
  obtain ⟨h1, g1⟩ := h.stored (k * 4) (.int .i64 x)
  obtain ⟨h2, g2⟩ := h1.stored (k * 4 + 1) (.int .i64 y)
  obtain ⟨h3, g3⟩ := h2.stored (k * 4 + 2) (.int .i64 z)
  obtain ⟨h4, g4⟩ := h3.stored (k * 4 + 3) (.int .i64 u)
  rw [set_c4 l (x, y, z, u) k hk]
  exact ⟨h4, ((g1.trans g2).trans g3).trans g4⟩
theorem own_store1 {w : World} {lo g n cap : Nat} {e : TypeId} {l : List Int} (h : w.ownsRow lo e 1 (.slice (some ⟨g, 0, none⟩) n cap) n (ints l)) (k : Nat) (x : Int) :
    (w.setCell ⟨g, k, none⟩ (.int .i64 x)).ownsRow lo e 1 (.slice (some ⟨g, 0, none⟩) n cap) n (ints (l.set k x)) ∧ w.grownBy (w.setCell ⟨g, k, none⟩ (.int .i64 x)) (some g) := by
  obtain ⟨h1, g1⟩ := h.stored k (.int .i64 x)
  rw [ints, List.map_set]
  exact ⟨h1, g1⟩
theorem set_next {α : Type} [Inhabited α] (l : List α) (z : α) (k : Nat) (hk : k < l.length) : (l.take k ++ List.replicate (l.length - k) z).set k l[k]! = l.take (k + 1) ++ List.replicate (l.length - (k + 1)) z := by
  rw [take_snoc hk, List.set_append_right _ _ (by simp; omega), show l.length - k = (l.length - (k+1)) + 1 from by omega, List.replicate_succ]
  have : min k l.length = k := by omega
  simp [this]
/-- What the size helpers answer: -1, or what is left. -/
def szP (left n : Int) : Int := if left - n < 0 then -1 else left - n
/-! ### What the marks write -/
def marks (n : Nat) (k : Int) : List Int := (List.range n).map fun (i : Nat) => k + i
def marks3 (n : Nat) (k : Int) : List D3 := (List.range n).map fun (i : Nat) => (k + i * 3, k + i * 3 + 1, k + i * 3 + 1 + 1)
def marks4 (n : Nat) (k : Int) : List D4 := (List.range n).map fun (i : Nat) => (k + i * 4, k + i * 4 + 1, k + i * 4 + 1 + 1, k + i * 4 + 1 + 1 + 1)
@[simp] theorem length_marks (n : Nat) (k : Int) : (marks n k).length = n := by simp [marks]
@[simp] theorem length_marks3 (n : Nat) (k : Int) : (marks3 n k).length = n := by simp [marks3]
@[simp] theorem length_marks4 (n : Nat) (k : Int) : (marks4 n k).length = n := by simp [marks4]
theorem marks_at (n : Nat) (k : Int) (i : Nat) (h : i < n) : (marks n k)[i]! = k + i := by rw [getElem!_pos _ _ (by simpa using h)]; simp [marks]
theorem marks3_at (n : Nat) (k : Int) (i : Nat) (h : i < n) : (marks3 n k)[i]! = (k + i * 3, k + i * 3 + 1, k + i * 3 + 1 + 1) := by rw [getElem!_pos _ _ (by simpa using h)]; simp [marks3]
theorem marks4_at (n : Nat) (k : Int) (i : Nat) (h : i < n) : (marks4 n k)[i]! = (k + i * 4, k + i * 4 + 1, k + i * 4 + 1 + 1, k + i * 4 + 1 + 1 + 1) := by rw [getElem!_pos _ _ (by simpa using h)]; simp [marks4]
theorem marks_next (l : List Int) (k : Int) (i : Nat) (h : i < l.length) : (marks i k ++ l.drop i).set i (k + i) = marks (i + 1) k ++ l.drop (i + 1) := by
  rw [List.set_append_right _ _ (by simp), length_marks, Nat.sub_self, List.drop_eq_getElem_cons h, List.set_cons_zero]
  simp only [marks, List.range_succ, List.map_append, List.map_cons, List.map_nil, List.append_assoc, List.singleton_append]
theorem marks3_next (l : List D3) (k : Int) (i : Nat) (h : i < l.length) : (marks3 i k ++ l.drop i).set i (k + i * 3, k + i * 3 + 1, k + i * 3 + 1 + 1) = marks3 (i + 1) k ++ l.drop (i + 1) := by
  rw [List.set_append_right _ _ (by simp), length_marks3, Nat.sub_self, List.drop_eq_getElem_cons h, List.set_cons_zero]
  simp only [marks3, List.range_succ, List.map_append, List.map_cons, List.map_nil, List.append_assoc, List.singleton_append]
theorem marks4_next (l : List D4) (k : Int) (i : Nat) (h : i < l.length) : (marks4 i k ++ l.drop i).set i (k + i * 4, k + i * 4 + 1, k + i * 4 + 1 + 1, k + i * 4 + 1 + 1 + 1) = marks4 (i + 1) k ++ l.drop (i + 1) := by
  rw [List.set_append_right _ _ (by simp), length_marks4, Nat.sub_self, List.drop_eq_getElem_cons h, List.set_cons_zero]
  simp only [marks4, List.range_succ, List.map_append, List.map_cons, List.map_nil, List.append_assoc, List.singleton_append]
theorem grown_refl (w : World) (row : Option Nat) : w.grownBy w row := ⟨rfl, rfl, rfl, Nat.le_refl _, fun _ _ _ => rfl⟩
/-! ### Mazes and works -/
structure Mz where
  size : Int
  doors : List D3
  keys : List Int
  deriving DecidableEq
structure Wk where
  size : Int
  gates : List D4
  pulls : List Int
  deriving DecidableEq
instance : Inhabited Mz := ⟨⟨0, [], []⟩⟩
instance : Inhabited Wk := ⟨⟨0, [], []⟩⟩
/-- A value that reads as a maze of moderate size. -/
structure MzAt (w : World) (v : Value) (m : Mz) : Prop where
  ex : ∃ ad cd ak ck, v = .agg #[.int .i64 m.size, .slice ad m.doors.length cd, .slice ak m.keys.length ck] ∧ D3C w ad m.doors ∧ IC w ak m.keys
  nd : m.doors.length ≤ 1048576
  nk : m.keys.length ≤ 1048576
structure WkAt (w : World) (v : Value) (m : Wk) : Prop where
  ex : ∃ ad cd ak ck, v = .agg #[.int .i64 m.size, .slice ad m.gates.length cd, .slice ak m.pulls.length ck] ∧ D4C w ad m.gates ∧ IC w ak m.pulls
  nd : m.gates.length ≤ 1048576
  nk : m.pulls.length ≤ 1048576
theorem MzAt.later {w w' : World} {v : Value} {m : Mz} (h : MzAt w v m) (hb : Below w.heap.size w w') : MzAt w' v m := by
  obtain ⟨⟨ad, cd, ak, ck, hv, h1, h2⟩, h3, h4⟩ := h
  exact ⟨⟨ad, cd, ak, ck, hv, h1.later hb, h2.later hb⟩, h3, h4⟩
theorem WkAt.later {w w' : World} {v : Value} {m : Wk} (h : WkAt w v m) (hb : Below w.heap.size w w') : WkAt w' v m := by
  obtain ⟨⟨ad, cd, ak, ck, hv, h1, h2⟩, h3, h4⟩ := h
  exact ⟨⟨ad, cd, ak, ck, hv, h1.later hb, h2.later hb⟩, h3, h4⟩
/-- A maze whose memory the call owns: blocks in [lo, hi). -/
def MzOwn (lo hi : Nat) (w : World) (v : Value) (m : Mz) : Prop :=
  ∃ e3 e1 vd vk, v = .agg #[.int .i64 m.size, vd, vk] ∧ Own lo hi w e3 3 vd m.doors.length (c3 m.doors) ∧ Own lo hi w e1 1 vk m.keys.length (ints m.keys) ∧ ∀ g, vd.ownBlock = some g → vk.ownBlock ≠ some g
def WkOwn (lo hi : Nat) (w : World) (v : Value) (m : Wk) : Prop :=
  ∃ e4 e1 vd vk, v = .agg #[.int .i64 m.size, vd, vk] ∧ Own lo hi w e4 4 vd m.gates.length (c4 m.gates) ∧ Own lo hi w e1 1 vk m.pulls.length (ints m.pulls) ∧ ∀ g, vd.ownBlock = some g → vk.ownBlock ≠ some g
theorem MzOwn.mz {lo hi : Nat} {w : World} {v : Value} {m : Mz} (h : MzOwn lo hi w v m) (h1 : m.doors.length ≤ 1048576) (h2 : m.keys.length ≤ 1048576) : MzAt w v m := by
  obtain ⟨e3, e1, vd, vk, rfl, o1, o2, _⟩ := h
  obtain ⟨ad, cd, rfl, _, hd⟩ := o1.d3
  obtain ⟨ak, ck, rfl, _, hk⟩ := o2.ic
  exact ⟨⟨ad, cd, ak, ck, rfl, hd, hk⟩, h1, h2⟩
theorem WkOwn.wk {lo hi : Nat} {w : World} {v : Value} {m : Wk} (h : WkOwn lo hi w v m) (h1 : m.gates.length ≤ 1048576) (h2 : m.pulls.length ≤ 1048576) : WkAt w v m := by
  obtain ⟨e3, e1, vd, vk, rfl, o1, o2, _⟩ := h
  obtain ⟨ad, cd, rfl, _, hd⟩ := o1.d4
  obtain ⟨ak, ck, rfl, _, hk⟩ := o2.ic
  exact ⟨⟨ad, cd, ak, ck, rfl, hd, hk⟩, h1, h2⟩
theorem MzOwn.later {lo hi B : Nat} {w w' : World} {v : Value} {m : Mz} (h : MzOwn lo hi w v m) (hb : Below B w w') (hB : hi ≤ B) : MzOwn lo hi w' v m := by
  obtain ⟨e3, e1, vd, vk, hv, o1, o2, h4⟩ := h
  exact ⟨e3, e1, vd, vk, hv, o1.later hb hB, o2.later hb hB, h4⟩
theorem WkOwn.later {lo hi B : Nat} {w w' : World} {v : Value} {m : Wk} (h : WkOwn lo hi w v m) (hb : Below B w w') (hB : hi ≤ B) : WkOwn lo hi w' v m := by
  obtain ⟨e3, e1, vd, vk, hv, o1, o2, h4⟩ := h
  exact ⟨e3, e1, vd, vk, hv, o1.later hb hB, o2.later hb hB, h4⟩
theorem MzOwn.mono {lo hi lo' hi' : Nat} {w : World} {v : Value} {m : Mz} (h : MzOwn lo hi w v m) (h1 : lo' ≤ lo) (h2 : hi ≤ hi') : MzOwn lo' hi' w v m := by
  obtain ⟨e3, e1, vd, vk, hv, o1, o2, h4⟩ := h
  exact ⟨e3, e1, vd, vk, hv, o1.mono h1 h2, o2.mono h1 h2, h4⟩
theorem WkOwn.mono {lo hi lo' hi' : Nat} {w : World} {v : Value} {m : Wk} (h : WkOwn lo hi w v m) (h1 : lo' ≤ lo) (h2 : hi ≤ hi') : WkOwn lo' hi' w v m := by
  obtain ⟨e3, e1, vd, vk, hv, o1, o2, h4⟩ := h
  exact ⟨e3, e1, vd, vk, hv, o1.mono h1 h2, o2.mono h1 h2, h4⟩
/-- What the size helper of mazes answers. -/
def szMzP (left : Int) (d k : Nat) : Int := if szP left d < 0 then -1 else szP (szP left d) k
/-- What a walk takes from 'below': cells, marks, the size. -/
theorem bcell3 {W w1 : World} {B : Nat} (hb : Below B W w1) : (∀ b o, b < B → w1.cell? ⟨b, o, none⟩ = W.cell? ⟨b, o, none⟩) ∧ (∀ b o, b < B → w1.frozen? ⟨b, o, none⟩ = W.frozen? ⟨b, o, none⟩) ∧ W.heap.size ≤ w1.heap.size :=
  ⟨(bcell hb).1, (bcell hb).2, hb.size⟩
theorem own_slice {w : World} {lo size n : Nat} {e : TypeId} {v : Value} {xs : List Value} (h : w.ownsRow lo e size v n xs) : ∃ a cap, v = .slice a n cap := by
  rcases h.2 with ⟨hv, hn⟩ | ⟨g, cap, cur, hv, _⟩
  · subst hn; exact ⟨none, 0, hv⟩
  · exact ⟨_, cap, hv⟩
theorem own_block_lo {w : World} {lo size n g : Nat} {e : TypeId} {v : Value} {xs : List Value} (h : w.ownsRow lo e size v n xs) (hg : v.ownBlock = some g) : lo ≤ g := by
  rcases h.2 with ⟨hv, _⟩ | ⟨g', cap, cur, hv, hlo, _⟩
  · subst hv; cases hg
  · subst hv; cases hg; exact hlo
theorem grown_setCell (w : World) (a : Addr) (u : Value) : w.grownBy (w.setCell a u) (some a.block) :=
  ⟨rfl, rfl, rfl, by simp, fun k _ hk => heap_setCell_other w a k u (fun e => hk (by simp [e]))⟩
theorem Own.setCell {lo hi size n : Nat} {w : World} {e : TypeId} {v : Value} {xs : List Value} (h : Own lo hi w e size v n xs) {a : Addr} (ha : a.block < lo ∨ hi ≤ a.block) (u : Value) : Own lo hi (w.setCell a u) e size v n xs :=
  h.grown (grown_setCell w a u) (fun g hg => by cases hg; exact ha)
theorem Own.apart {lo hi lo' hi' size n size' n' : Nat} {w w' : World} {e e' : TypeId} {v v' : Value} {xs xs' : List Value} (h : Own lo hi w e size v n xs) (h' : Own lo' hi' w' e' size' v' n' xs') (hb : hi ≤ lo' ∨ hi' ≤ lo) : ∀ g, v.ownBlock = some g → v'.ownBlock ≠ some g := by
  intro g hg hg'
  have := h.top g hg
  have := h'.top g hg'
  have := own_block_lo h.row hg
  have := own_block_lo h'.row hg'
  omega
end Go.KD
