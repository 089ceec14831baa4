/- Words shared by the walks of this seat: readings of slices of numbers and of rows of three and four numbers, worlds that agree below a block, a region walked once at such worlds. No program is named here. Contracts of the laws' own helpers: sizes, copies, equality, marks of slices of numbers, of rows, of mazes and works. Contracts of the laws' own helpers over mazes and works: sizes, copies, equality, marks. Worlds that differ in some blocks alone; what the marks of mazes and works do. Plain words: sets, orders of rows, valid mazes and works. No program is named here. More words for the walks; no program is named here. What an argument of a law reads as: slices of numbers, of rows of three and of four numbers, mazes and works. No program is named here. Contracts of the functions on works: validity. Contracts of counting bits. Numbers as sets: what Go's operators on int come to at small naturals. No program is named here. Contracts of the lists of a set. Contracts of small functions on lists of numbers: is a number in it, where, a copy. The cursor of the draws: plain words, and next, pick, one, among. -/
import Derived.WalkKit
import Derived.Below
import Derived.Deep.Draws
import Derived.OwnWalk
import Derived.Deep.LoopGhost
import Derived.Deep.QuietTactic
import Derived.BigQuiet
import Derived.KernelRfl
import Derived.RowKit3
import Derived.Outline
import Derived.Lib.Hide
import Derived.LoopN
import Derived.Laws.AppendOwn
import Derived.StillTailTactics
import Derived.Laws.OwnMore
import Derived.Laws.MakeOwn
import Derived.Deep.AppendLies
import Derived.Maps.AppendAt
import Derived.Test.YtcjcgcgcloanpaaProg
import Derived.ProofKit
import Derived.OpenShut
import Derived.ChangeOld
import Derived.Lib.SmallJoins
import Derived.Deep.Slices
import Derived.Laws.BitsLemmas
import Derived.Lib.SliceRun
import Derived.Lib.VarintBits
import Derived.Deep.RegionHeld3
import Derived.Deep.DeepCutAuto
set_option linter.unusedVariables false
set_option linter.unusedSimpArgs false
namespace Go.KD
open Go.RowKit

theorem ret_bool {a b : Bool} (h : a = b) : Ending.returned (.bool a) = .returned (.bool b) := by rw [h]
theorem ret_int {k : IntKind} {a b : Int} (h : a = b) : Ending.returned (.int k a) = .returned (.int k b) := by rw [h]
theorem bcell {W w1 : World} {B : Nat} (hb : Below B W w1) : (∀ b o, b < B → w1.cell? ⟨b, o, none⟩ = W.cell? ⟨b, o, none⟩) ∧ (∀ b o, b < B → w1.frozen? ⟨b, o, none⟩ = W.frozen? ⟨b, o, none⟩) :=
  ⟨fun b o h => hb.cell (p := ⟨b, o, none⟩) h, fun b o h => hb.frozen (p := ⟨b, o, none⟩) h⟩
theorem below_drewN {B : Nat} {a w : World} (h : Below B a w) (n : Nat) : Below B a (w.drewN n) := h.trans ⟨rfl, rfl, rfl, Nat.le_refl _, fun _ _ => rfl⟩
theorem below_then {w w1 w2 : World} (h : Below w.heap.size w w1) (k : Below w1.heap.size w1 w2) : Below w.heap.size w w2 := h.trans (k.mono h.size)

/-! ### Worlds that agree below a block -/
def Later (w : World) (B : Nat) : Type := { w' : World // Below B w w' }
instance (w : World) (B : Nat) : Nonempty (Later w B) := ⟨⟨w, Below.refl B w⟩⟩
theorem later_cell {w : World} {B : Nat} (k : Later w B) (b o : Nat) (h : b < B) : k.1.cell? ⟨b, o, none⟩ = w.cell? ⟨b, o, none⟩ := k.2.cell (p := ⟨b, o, none⟩) h
theorem later_frozen {w : World} {B : Nat} (k : Later w B) (b o : Nat) (h : b < B) : k.1.frozen? ⟨b, o, none⟩ = w.frozen? ⟨b, o, none⟩ := k.2.frozen (p := ⟨b, o, none⟩) h
/-- A region that draws its order, whose operations read below B and whose calls change nothing below B: walked once. -/
theorem wp_region_later {P : Program} {id : Nat} {Q : Exit → Act → World → Prop} {a : Act} {w : World} {l : List Oper} (B : Nat) (hm : P.follows .mixedOrders = true) (hB : Region.lexB .any l.toArray = true)
    (h : wpQuiet P l.toArray (fun w' => ∃ k : Later w B, w' = k.1) (fun a' => ∀ w', (∃ k : Later w B, w' = k.1) → Q .normal a' w') l a) : (Code.region id l.toArray true).wp P Q a w :=
  wp_region_quiet (C := fun w' => ∃ k : Later w B, w' = k.1) hm hB ⟨⟨_, (Below.refl B w).drew⟩, rfl⟩ (by simpa using h)
theorem Calls.later_of {P : Program} {f : FuncId} {args : Array Value} {w : World} {B : Nat} {k : Later w B} {v : Value} (hB : B ≤ w.heap.size)
    (h : Calls P f args k.1 fun e w' => e = .returned v ∧ Below k.1.heap.size k.1 w') : Calls P f args k.1 fun e w'' => e = .returned v ∧ ∃ m : Later w B, w'' = m.1 :=
  h.mono fun _ w' ⟨he, hm⟩ => ⟨he, ⟨w', k.2.trans (hm.mono (Nat.le_trans hB k.2.size))⟩, rfl⟩
theorem Calls.later_same {P : Program} {f : FuncId} {args : Array Value} {w : World} {B : Nat} {k : Later w B} {v : Value}
    (h : Calls P f args k.1 fun e w' => e = .returned v ∧ k.1 = w') : Calls P f args k.1 fun e w'' => e = .returned v ∧ ∃ m : Later w B, w'' = m.1 :=
  h.mono fun _ _ ⟨he, hm⟩ => ⟨he, k, hm.symm⟩

/-- A region whose first n operations read, and whose others stand in one order: walked once. -/
theorem wp_region_tail {P : Program} {id : Nat} {Q : Exit → Act → World → Prop} {a : Act} {w : World} {l : List Oper} (n : Nat) (hm : P.follows .mixedOrders = true) (hB : Region.lexTailB .any l.toArray n = true)
    (h : wpStill P l.toArray w.drew (fun a' => wpList P l.toArray Q (l.drop n) a' w.drew) (l.take n) a) : (Code.region id l.toArray true).wp P Q a w :=
  wp_region_still_tail n hm hB h
/-! ### Readings -/
abbrev D3 := Int × Int × Int
abbrev D4 := Int × Int × Int × Int
/-- The cells of a slice of numbers. -/
def IC (w : World) (a : Option Addr) (l : List Int) : Prop :=
  ∀ k, k < l.length → ∃ b off, a = some ⟨b, off, none⟩ ∧ b < w.heap.size ∧ w.cell? ⟨b, off + k, none⟩ = some (.int .i64 l[k]!)
def D3C (w : World) (a : Option Addr) (l : List D3) : Prop :=
  ∀ k, k < l.length → ∃ b off, a = some ⟨b, off, none⟩ ∧ b < w.heap.size ∧
    w.cell? ⟨b, off + k * 3, none⟩ = some (.int .i64 (l[k]!).1) ∧ w.cell? ⟨b, off + k * 3 + 1, none⟩ = some (.int .i64 (l[k]!).2.1) ∧ w.cell? ⟨b, off + k * 3 + 2, none⟩ = some (.int .i64 (l[k]!).2.2)
def D4C (w : World) (a : Option Addr) (l : List D4) : Prop :=
  ∀ k, k < l.length → ∃ b off, a = some ⟨b, off, none⟩ ∧ b < w.heap.size ∧
    w.cell? ⟨b, off + k * 4, none⟩ = some (.int .i64 (l[k]!).1) ∧ w.cell? ⟨b, off + k * 4 + 1, none⟩ = some (.int .i64 (l[k]!).2.1) ∧ w.cell? ⟨b, off + k * 4 + 2, none⟩ = some (.int .i64 (l[k]!).2.2.1) ∧ w.cell? ⟨b, off + k * 4 + 3, none⟩ = some (.int .i64 (l[k]!).2.2.2)
theorem IC.at {w : World} {a : Option Addr} {l : List Int} (h : IC w a l) (k : Nat) (hk : k < l.length) : ∃ b off x, a = some ⟨b, off, none⟩ ∧ Hid (l[k]! = x) ∧ b < w.heap.size ∧ w.cell? ⟨b, off + k, none⟩ = some (.int .i64 x) := by
  obtain ⟨b, off, h⟩ := h k hk
  exact ⟨b, off, _, h.1, rfl, h.2⟩
theorem D3C.at {w : World} {a : Option Addr} {l : List D3} (h : D3C w a l) (k : Nat) (hk : k < l.length) : ∃ b off x y z, a = some ⟨b, off, none⟩ ∧ Hid (l[k]! = (x, y, z)) ∧ b < w.heap.size ∧
    w.cell? ⟨b, off + k * 3, none⟩ = some (.int .i64 x) ∧ w.cell? ⟨b, off + k * 3 + 1, none⟩ = some (.int .i64 y) ∧ w.cell? ⟨b, off + k * 3 + 2, none⟩ = some (.int .i64 z) := by
  obtain ⟨b, off, h⟩ := h k hk
  exact ⟨b, off, _, _, _, h.1, rfl, h.2⟩
theorem D4C.at {w : World} {a : Option Addr} {l : List D4} (h : D4C w a l) (k : Nat) (hk : k < l.length) : ∃ b off x y z u, a = some ⟨b, off, none⟩ ∧ Hid (l[k]! = (x, y, z, u)) ∧ b < w.heap.size ∧
    w.cell? ⟨b, off + k * 4, none⟩ = some (.int .i64 x) ∧ w.cell? ⟨b, off + k * 4 + 1, none⟩ = some (.int .i64 y) ∧ w.cell? ⟨b, off + k * 4 + 2, none⟩ = some (.int .i64 z) ∧ w.cell? ⟨b, off + k * 4 + 3, none⟩ = some (.int .i64 u) := by
  obtain ⟨b, off, h⟩ := h k hk
  exact ⟨b, off, _, _, _, _, h.1, rfl, h.2⟩
theorem IC.later {w w' : World} {a : Option Addr} {l : List Int} (h : IC w a l) (hb : Below w.heap.size w w') : IC w' a l := by
  intro k hk
  obtain ⟨b, off, ha, hbs, c0⟩ := h k hk
  obtain ⟨hc, hf⟩ := bcell hb
  exact ⟨b, off, ha, by have := hb.size; omega, (hc _ _ hbs).trans c0⟩
theorem D3C.later {w w' : World} {a : Option Addr} {l : List D3} (h : D3C w a l) (hb : Below w.heap.size w w') : D3C w' a l := by
  intro k hk
  obtain ⟨b, off, ha, hbs, c0, c1, c2⟩ := h k hk
  obtain ⟨hc, hf⟩ := bcell hb
  exact ⟨b, off, ha, by have := hb.size; omega, (hc _ _ hbs).trans c0, (hc _ _ hbs).trans c1, (hc _ _ hbs).trans c2⟩
theorem D4C.later {w w' : World} {a : Option Addr} {l : List D4} (h : D4C w a l) (hb : Below w.heap.size w w') : D4C w' a l := by
  intro k hk
  obtain ⟨b, off, ha, hbs, c0, c1, c2, c3⟩ := h k hk
  obtain ⟨hc, hf⟩ := bcell hb
  exact ⟨b, off, ha, by have := hb.size; omega, (hc _ _ hbs).trans c0, (hc _ _ hbs).trans c1, (hc _ _ hbs).trans c2, (hc _ _ hbs).trans c3⟩
theorem take_succ_eq {α : Type} [Inhabited α] {l m : List α} {k : Nat} (h1 : k < l.length) (h2 : k < m.length) (h : l.take k = m.take k) (he : l[k]! = m[k]!) : l.take (k+1) = m.take (k+1) := by
  rw [List.take_succ_eq_append_getElem h1, List.take_succ_eq_append_getElem h2, h]
  rw [getElem!_pos l k h1, getElem!_pos m k h2] at he
  rw [he]
theorem take_snoc {α : Type} [Inhabited α] {l : List α} {k : Nat} (h1 : k < l.length) : l.take (k+1) = l.take k ++ [l[k]!] := by
  rw [List.take_succ_eq_append_getElem h1, getElem!_pos l k h1]

/-! ### Rows that a call owns -/
def ints (l : List Int) : List Value := l.map (.int .i64)
def c3 (l : List D3) : List Value := l.flatMap fun d => [.int .i64 d.1, .int .i64 d.2.1, .int .i64 d.2.2]
def c4 (l : List D4) : List Value := l.flatMap fun d => [.int .i64 d.1, .int .i64 d.2.1, .int .i64 d.2.2.1, .int .i64 d.2.2.2]
@[simp] theorem length_ints (l : List Int) : (ints l).length = l.length := by simp [ints]
theorem length_c3 (l : List D3) : (c3 l).length = l.length * 3 := by
  induction l with
  | nil => rfl
  | cons d l ih => simp only [c3, List.flatMap_cons, List.length_append, List.length_cons] at *; simp at *; omega
theorem length_c4 (l : List D4) : (c4 l).length = l.length * 4 := by
  induction l with
  | nil => rfl
  | cons d l ih => simp only [c4, List.flatMap_cons, List.length_append, List.length_cons] at *; simp at *; omega
theorem get_c3 (l : List D3) : ∀ (k : Nat), k < l.length → (c3 l)[k * 3]? = some (.int .i64 (l[k]!).1) ∧ (c3 l)[k * 3 + 1]? = some (.int .i64 (l[k]!).2.1) ∧ (c3 l)[k * 3 + 2]? = some (.int .i64 (l[k]!).2.2) := by
  induction l with
  | nil => intro k h; simp at h
  | cons d l ih =>
    intro k h
    cases k with
    | zero => simp [c3]
    | succ k =>
      have := ih k (by simpa using h)
      simp only [c3, List.flatMap_cons, List.getElem!_cons_succ] at *
      have e : (k + 1) * 3 = k * 3 + 3 := by omega
      rw [e]
      simpa using this
theorem get_c4 (l : List D4) : ∀ (k : Nat), k < l.length → (c4 l)[k * 4]? = some (.int .i64 (l[k]!).1) ∧ (c4 l)[k * 4 + 1]? = some (.int .i64 (l[k]!).2.1) ∧ (c4 l)[k * 4 + 2]? = some (.int .i64 (l[k]!).2.2.1) ∧ (c4 l)[k * 4 + 3]? = some (.int .i64 (l[k]!).2.2.2) := by
  induction l with
  | nil => intro k h; simp at h
  | cons d l ih =>
    intro k h
    cases k with
    | zero => simp [c4]
    | succ k =>
      have := ih k (by simpa using h)
      simp only [c4, List.flatMap_cons, List.getElem!_cons_succ] at *
      have e : (k + 1) * 4 = k * 4 + 4 := by omega
      rw [e]
      simpa using this
/-- An owned row: its block lies in [lo, hi). -/
structure Own (lo hi : Nat) (w : World) (e : TypeId) (size : Nat) (v : Value) (n : Nat) (xs : List Value) : Prop where
  row : w.ownsRow lo e size v n xs
  top : ∀ g, v.ownBlock = some g → g < hi
theorem Own.form {lo hi size n : Nat} {w : World} {e : TypeId} {v : Value} {xs : List Value} (h : Own lo hi w e size v n xs) :
    ∃ a cap, v = .slice a n cap ∧ n ≤ maxLen ∧ ∀ j, j < n * size → ∃ g, a = some ⟨g, 0, none⟩ ∧ lo ≤ g ∧ g < hi ∧ g < w.heap.size ∧ w.cell? ⟨g, j, none⟩ = xs[j]? ∧ w.frozen? ⟨g, j, none⟩ = false := by
  obtain ⟨⟨hl, h1⟩, ht⟩ := h
  rcases h1 with ⟨rfl, rfl⟩ | ⟨g, cap, cur, rfl, hg, hh, hn, hm, hc, hx⟩
  · exact ⟨none, 0, rfl, by unfold maxLen; omega, fun j hj => by omega⟩
  · refine ⟨_, cap, rfl, Nat.le_trans hn hm, fun j hj => ⟨g, rfl, hg, ht g rfl, ?_, ?_, ?_⟩⟩
    · rcases Nat.lt_or_ge g w.heap.size with h | h
      · exact h
      · rw [Array.getElem?_eq_none h] at hh; cases hh
    · simp only [World.cell?, hh]
      rw [← hx, List.getElem?_take, if_pos hj]
      simp
    · simp [World.frozen?, hh]
theorem Own.ic {lo hi : Nat} {w : World} {e : TypeId} {v : Value} {l : List Int} (h : Own lo hi w e 1 v l.length (ints l)) : ∃ a cap, v = .slice a l.length cap ∧ l.length ≤ maxLen ∧ IC w a l := by
  obtain ⟨a, cap, rfl, hm, hj⟩ := h.form
  refine ⟨a, cap, rfl, hm, fun k hk => ?_⟩
  obtain ⟨g, ha, _, _, hs, hc, _⟩ := hj k (by omega)
  refine ⟨g, 0, ha, hs, ?_⟩
  rw [Nat.zero_add, hc, ints, List.getElem?_map, getElem!_pos l k hk, List.getElem?_eq_getElem hk]
  rfl
theorem Own.d3 {lo hi : Nat} {w : World} {e : TypeId} {v : Value} {l : List D3} (h : Own lo hi w e 3 v l.length (c3 l)) : ∃ a cap, v = .slice a l.length cap ∧ l.length ≤ maxLen ∧ D3C w a l := by
  obtain ⟨a, cap, rfl, hm, hj⟩ := h.form
  refine ⟨a, cap, rfl, hm, fun k hk => ?_⟩
  obtain ⟨g, ha, _, _, hs, hc, _⟩ := hj (k * 3) (by omega)
  obtain ⟨g1, ha1, _, _, _, hc1, _⟩ := hj (k * 3 + 1) (by omega)
  obtain ⟨g2, ha2, _, _, _, hc2, _⟩ := hj (k * 3 + 2) (by omega)
  obtain rfl : g = g1 := by rw [ha] at ha1; simpa using ha1
  obtain rfl : g = g2 := by rw [ha] at ha2; simpa using ha2
  have := get_c3 l k hk
  exact ⟨g, 0, ha, hs, by rw [Nat.zero_add, hc, this.1], by rw [Nat.zero_add, hc1, this.2.1], by rw [Nat.zero_add, hc2, this.2.2]⟩
theorem Own.d4 {lo hi : Nat} {w : World} {e : TypeId} {v : Value} {l : List D4} (h : Own lo hi w e 4 v l.length (c4 l)) : ∃ a cap, v = .slice a l.length cap ∧ l.length ≤ maxLen ∧ D4C w a l := by
  obtain ⟨a, cap, rfl, hm, hj⟩ := h.form
  refine ⟨a, cap, rfl, hm, fun k hk => ?_⟩
  obtain ⟨g, ha, _, _, hs, hc, _⟩ := hj (k * 4) (by omega)
  obtain ⟨g1, ha1, _, _, _, hc1, _⟩ := hj (k * 4 + 1) (by omega)
  obtain ⟨g2, ha2, _, _, _, hc2, _⟩ := hj (k * 4 + 2) (by omega)
  obtain ⟨g3, ha3, _, _, _, hc3, _⟩ := hj (k * 4 + 3) (by omega)
  obtain rfl : g = g1 := by rw [ha] at ha1; simpa using ha1
  obtain rfl : g = g2 := by rw [ha] at ha2; simpa using ha2
  obtain rfl : g = g3 := by rw [ha] at ha3; simpa using ha3
  have := get_c4 l k hk
  exact ⟨g, 0, ha, hs, by rw [Nat.zero_add, hc, this.1], by rw [Nat.zero_add, hc1, this.2.1], by rw [Nat.zero_add, hc2, this.2.2.1], by rw [Nat.zero_add, hc3, this.2.2.2]⟩
theorem Own.size {lo hi size n : Nat} {w : World} {e : TypeId} {v : Value} {xs : List Value} (h : Own lo hi w e size v n xs) : xs.length = n * size := h.row.1
theorem Own.later {lo hi size n B : Nat} {w w' : World} {e : TypeId} {v : Value} {xs : List Value} (h : Own lo hi w e size v n xs) (hb : Below B w w') (hB : hi ≤ B) : Own lo hi w' e size v n xs := by
  obtain ⟨⟨hl, h1⟩, ht⟩ := h
  refine ⟨⟨hl, ?_⟩, ht⟩
  rcases h1 with h1 | ⟨g, cap, cur, hv, hg, hh, r⟩
  · exact .inl h1
  · exact .inr ⟨g, cap, cur, hv, hg, by rw [hb.block g (by have := ht g (by rw [hv]; rfl); omega)]; exact hh, r⟩
theorem Own.grown {lo hi size n : Nat} {w w' : World} {row : Option Nat} {e : TypeId} {v : Value} {xs : List Value} (h : Own lo hi w e size v n xs) (hb : w.grownBy w' row) (hr : ∀ g, row = some g → g < lo ∨ hi ≤ g) : Own lo hi w' e size v n xs := by
  obtain ⟨⟨hl, h1⟩, ht⟩ := h
  refine ⟨⟨hl, ?_⟩, ht⟩
  rcases h1 with h1 | ⟨g, cap, cur, hv, hg, hh, r⟩
  · exact .inl h1
  · refine .inr ⟨g, cap, cur, hv, hg, ?_, r⟩
    rw [hb.block g ?_ ?_]; exact hh
    · rcases Nat.lt_or_ge g w.heap.size with h | h
      · exact h
      · rw [Array.getElem?_eq_none h] at hh; cases hh
    · intro hk
      have := hr g hk.symm
      have := ht g (by rw [hv]; rfl)
      omega
theorem Own.mono {lo hi lo' hi' size n : Nat} {w : World} {e : TypeId} {v : Value} {xs : List Value} (h : Own lo hi w e size v n xs) (h1 : lo' ≤ lo) (h2 : hi ≤ hi') : Own lo' hi' w e size v n xs := by
  obtain ⟨⟨hl, h3⟩, ht⟩ := h
  refine ⟨⟨hl, ?_⟩, fun g hg => Nat.lt_of_lt_of_le (ht g hg) h2⟩
  rcases h3 with h3 | ⟨g, cap, cur, hv, hg, r⟩
  · exact .inl h3
  · exact .inr ⟨g, cap, cur, hv, Nat.le_trans h1 hg, r⟩
theorem Own.of {lo size n : Nat} {w : World} {e : TypeId} {v : Value} {xs : List Value} (h : w.ownsRow lo e size v n xs) : Own lo w.heap.size w e size v n xs := by
  refine ⟨h, fun g hg => ?_⟩
  obtain ⟨hl, h1⟩ := h
  rcases h1 with ⟨rfl, _⟩ | ⟨g', cap, cur, rfl, hg', hh, r⟩
  · cases hg
  · cases hg
    rcases Nat.lt_or_ge g' w.heap.size with h | h
    · exact h
    · rw [Array.getElem?_eq_none h] at hh; cases hh
theorem made3 (n : Nat) : (madeCells (Value.agg #[.int .i64 0, .int .i64 0, .int .i64 0]).cells (n * 3)).toList = c3 (List.replicate n (0, 0, 0)) := by
  apply List.ext_getElem?
  intro i
  rcases Nat.lt_or_ge i (n * 3) with h | h
  · have hk := get_c3 (List.replicate n ((0, 0, 0) : D3)) (i / 3) (by simp; omega)
    rw [getElem!_pos _ _ (by simp; omega)] at hk
    simp only [List.getElem_replicate] at hk
    have : i = i / 3 * 3 ∨ i = i / 3 * 3 + 1 ∨ i = i / 3 * 3 + 2 := by omega
    have e : (madeCells (Value.agg #[.int .i64 0, .int .i64 0, .int .i64 0]).cells (n * 3)).toList[i]? = some (.int .i64 0) := by
      simp [madeCells, Value.cells, h]
      have : i % 3 = 0 ∨ i % 3 = 1 ∨ i % 3 = 2 := by omega
      rcases this with h | h | h <;> simp [h]
    rw [e]
    rcases this with h | h | h <;> rw [h] <;> simp [hk]
  · rw [List.getElem?_eq_none (by simpa [madeCells] using h), List.getElem?_eq_none (by rw [length_c3]; simpa using h)]
theorem made4 (n : Nat) : (madeCells (Value.agg #[.int .i64 0, .int .i64 0, .int .i64 0, .int .i64 0]).cells (n * 4)).toList = c4 (List.replicate n (0, 0, 0, 0)) := by
  apply List.ext_getElem?
  intro i
  rcases Nat.lt_or_ge i (n * 4) with h | h
  · have hk := get_c4 (List.replicate n ((0, 0, 0, 0) : D4)) (i / 4) (by simp; omega)
    rw [getElem!_pos _ _ (by simp; omega)] at hk
    simp only [List.getElem_replicate] at hk
    have : i = i / 4 * 4 ∨ i = i / 4 * 4 + 1 ∨ i = i / 4 * 4 + 2 ∨ i = i / 4 * 4 + 3 := by omega
    have e : (madeCells (Value.agg #[.int .i64 0, .int .i64 0, .int .i64 0, .int .i64 0]).cells (n * 4)).toList[i]? = some (.int .i64 0) := by
      simp [madeCells, Value.cells, h]
      have : i % 4 = 0 ∨ i % 4 = 1 ∨ i % 4 = 2 ∨ i % 4 = 3 := by omega
      rcases this with h | h | h | h <;> simp [h]
    rw [e]
    rcases this with h | h | h | h <;> rw [h] <;> simp [hk]
  · rw [List.getElem?_eq_none (by simpa [madeCells] using h), List.getElem?_eq_none (by rw [length_c4]; simpa using h)]
theorem set_c3 (l : List D3) (d : D3) : ∀ k, k < l.length → c3 (l.set k d) = (((c3 l).set (k * 3) (.int .i64 d.1)).set (k * 3 + 1) (.int .i64 d.2.1)).set (k * 3 + 2) (.int .i64 d.2.2) := by
  induction l with
  | nil => intro k h; simp at h
  | cons x l ih =>
    intro k h
    cases k with
    | zero => simp [c3]
    | succ k =>
      have := ih k (by simpa using h)
      simp only [c3, List.set_cons_succ, List.flatMap_cons] at *
      rw [this, show (k + 1) * 3 = k * 3 + 3 from by omega]
      simp
theorem set_c4 (l : List D4) (d : D4) : ∀ k, k < l.length → c4 (l.set k d) = ((((c4 l).set (k * 4) (.int .i64 d.1)).set (k * 4 + 1) (.int .i64 d.2.1)).set (k * 4 + 2) (.int .i64 d.2.2.1)).set (k * 4 + 3) (.int .i64 d.2.2.2) := by
  induction l with
  | nil => intro k h; simp at h
  | cons x l ih =>
    intro k h
    cases k with
    | zero => simp [c4]
    | succ k =>
      have := ih k (by simpa using h)
      simp only [c4, List.set_cons_succ, List.flatMap_cons] at *
      rw [this, show (k + 1) * 4 = k * 4 + 4 from by omega]
      simp
/-- A cell of an owned row: it is there, it may be written. -/
theorem own_cell {w : World} {lo g n cap size : Nat} {e : TypeId} {xs : List Value} (h : w.ownsRow lo e size (.slice (some ⟨g, 0, none⟩) n cap) n xs) (j : Nat) (hj : j < n * size) :
    (∃ u, w.cell? ⟨g, j, none⟩ = some u) ∧ w.frozen? ⟨g, j, none⟩ = false := by
  refine ⟨⟨xs[j]'(by rw [h.1]; exact hj), ?_⟩, h.frozenAt _⟩
  rw [h.cellAt j hj, List.getElem?_eq_getElem]
theorem own_store3 {w : World} {lo g n cap : Nat} {e : TypeId} {l : List D3} (h : w.ownsRow lo e 3 (.slice (some ⟨g, 0, none⟩) n cap) n (c3 l)) (k : Nat) (hk : k < l.length) (x y z : Int) :
    (((w.setCell ⟨g, k * 3, none⟩ (.int .i64 x)).setCell ⟨g, k * 3 + 1, none⟩ (.int .i64 y)).setCell ⟨g, k * 3 + 2, none⟩ (.int .i64 z)).ownsRow lo e 3 (.slice (some ⟨g, 0, none⟩) n cap) n (c3 (l.set k (x, y, z))) ∧
    w.grownBy (((w.setCell ⟨g, k * 3, none⟩ (.int .i64 x)).setCell ⟨g, k * 3 + 1, none⟩ (.int .i64 y)).setCell ⟨g, k * 3 + 2, none⟩ (.int .i64 z)) (some g) := by
  obtain ⟨h1, g1⟩ := h.stored (k * 3) (.int .i64 x)
  obtain ⟨h2, g2⟩ := h1.stored (k * 3 + 1) (.int .i64 y)
  obtain ⟨h3, g3⟩ := h2.stored (k * 3 + 2) (.int .i64 z)
  rw [set_c3 l (x, y, z) k hk]
  exact ⟨h3, (g1.trans g2).trans g3⟩
theorem own_store4 {w : World} {lo g n cap : Nat} {e : TypeId} {l : List D4} (h : w.ownsRow lo e 4 (.slice (some ⟨g, 0, none⟩) n cap) n (c4 l)) (k : Nat) (hk : k < l.length) (x y z u : Int) :
    ((((w.setCell ⟨g, k * 4, none⟩ (.int .i64 x)).setCell ⟨g, k * 4 + 1, none⟩ (.int .i64 y)).setCell ⟨g, k * 4 + 2, none⟩ (.int .i64 z)).setCell ⟨g, k * 4 + 3, none⟩ (.int .i64 u)).ownsRow lo e 4 (.slice (some ⟨g, 0, none⟩) n cap) n (c4 (l.set k (x, y, z, u))) ∧
    w.grownBy ((((w.setCell ⟨g, k * 4, none⟩ (.int .i64 x)).setCell ⟨g, k * 4 + 1, none⟩ (.int .i64 y)).setCell ⟨g, k * 4 + 2, none⟩ (.int .i64 z)).setCell ⟨g, k * 4 + 3, none⟩ (.int .i64 u)) (some g) := by
  obtain ⟨h1, g1⟩ := h.stored (k * 4) (.int .i64 x)
  obtain ⟨h2, g2⟩ := h1.stored (k * 4 + 1) (.int .i64 y)
  obtain ⟨h3, g3⟩ := h2.stored (k * 4 + 2) (.int .i64 z)
  obtain ⟨h4, g4⟩ := h3.stored (k * 4 + 3) (.int .i64 u)
  rw [set_c4 l (x, y, z, u) k hk]
  exact ⟨h4, ((g1.trans g2).trans g3).trans g4⟩
theorem own_store1 {w : World} {lo g n cap : Nat} {e : TypeId} {l : List Int} (h : w.ownsRow lo e 1 (.slice (some ⟨g, 0, none⟩) n cap) n (ints l)) (k : Nat) (x : Int) :
    (w.setCell ⟨g, k, none⟩ (.int .i64 x)).ownsRow lo e 1 (.slice (some ⟨g, 0, none⟩) n cap) n (ints (l.set k x)) ∧ w.grownBy (w.setCell ⟨g, k, none⟩ (.int .i64 x)) (some g) := by
  obtain ⟨h1, g1⟩ := h.stored k (.int .i64 x)
  rw [ints, List.map_set]
  exact ⟨h1, g1⟩
theorem set_next {α : Type} [Inhabited α] (l : List α) (z : α) (k : Nat) (hk : k < l.length) : (l.take k ++ List.replicate (l.length - k) z).set k l[k]! = l.take (k + 1) ++ List.replicate (l.length - (k + 1)) z := by
  rw [take_snoc hk, List.set_append_right _ _ (by simp; omega), show l.length - k = (l.length - (k+1)) + 1 from by omega, List.replicate_succ]
  have : min k l.length = k := by omega
  simp [this]
/-- What the size helpers answer: -1, or what is left. -/
def szP (left n : Int) : Int := if left - n < 0 then -1 else left - n
/-! ### What the marks write -/
def marks (n : Nat) (k : Int) : List Int := (List.range n).map fun (i : Nat) => k + i
def marks3 (n : Nat) (k : Int) : List D3 := (List.range n).map fun (i : Nat) => (k + i * 3, k + i * 3 + 1, k + i * 3 + 1 + 1)
def marks4 (n : Nat) (k : Int) : List D4 := (List.range n).map fun (i : Nat) => (k + i * 4, k + i * 4 + 1, k + i * 4 + 1 + 1, k + i * 4 + 1 + 1 + 1)
@[simp] theorem length_marks (n : Nat) (k : Int) : (marks n k).length = n := by simp [marks]
@[simp] theorem length_marks3 (n : Nat) (k : Int) : (marks3 n k).length = n := by simp [marks3]
@[simp] theorem length_marks4 (n : Nat) (k : Int) : (marks4 n k).length = n := by simp [marks4]
theorem marks_at (n : Nat) (k : Int) (i : Nat) (h : i < n) : (marks n k)[i]! = k + i := by rw [getElem!_pos _ _ (by simpa using h)]; simp [marks]
theorem marks3_at (n : Nat) (k : Int) (i : Nat) (h : i < n) : (marks3 n k)[i]! = (k + i * 3, k + i * 3 + 1, k + i * 3 + 1 + 1) := by rw [getElem!_pos _ _ (by simpa using h)]; simp [marks3]
theorem marks4_at (n : Nat) (k : Int) (i : Nat) (h : i < n) : (marks4 n k)[i]! = (k + i * 4, k + i * 4 + 1, k + i * 4 + 1 + 1, k + i * 4 + 1 + 1 + 1) := by rw [getElem!_pos _ _ (by simpa using h)]; simp [marks4]
theorem marks_next (l : List Int) (k : Int) (i : Nat) (h : i < l.length) : (marks i k ++ l.drop i).set i (k + i) = marks (i + 1) k ++ l.drop (i + 1) := by
  rw [List.set_append_right _ _ (by simp), length_marks, Nat.sub_self, List.drop_eq_getElem_cons h, List.set_cons_zero]
  simp only [marks, List.range_succ, List.map_append, List.map_cons, List.map_nil, List.append_assoc, List.singleton_append]
theorem marks3_next (l : List D3) (k : Int) (i : Nat) (h : i < l.length) : (marks3 i k ++ l.drop i).set i (k + i * 3, k + i * 3 + 1, k + i * 3 + 1 + 1) = marks3 (i + 1) k ++ l.drop (i + 1) := by
  rw [List.set_append_right _ _ (by simp), length_marks3, Nat.sub_self, List.drop_eq_getElem_cons h, List.set_cons_zero]
  simp only [marks3, List.range_succ, List.map_append, List.map_cons, List.map_nil, List.append_assoc, List.singleton_append]
theorem marks4_next (l : List D4) (k : Int) (i : Nat) (h : i < l.length) : (marks4 i k ++ l.drop i).set i (k + i * 4, k + i * 4 + 1, k + i * 4 + 1 + 1, k + i * 4 + 1 + 1 + 1) = marks4 (i + 1) k ++ l.drop (i + 1) := by
  rw [List.set_append_right _ _ (by simp), length_marks4, Nat.sub_self, List.drop_eq_getElem_cons h, List.set_cons_zero]
  simp only [marks4, List.range_succ, List.map_append, List.map_cons, List.map_nil, List.append_assoc, List.singleton_append]
theorem grown_refl (w : World) (row : Option Nat) : w.grownBy w row := ⟨rfl, rfl, rfl, Nat.le_refl _, fun _ _ _ => rfl⟩
/-! ### Mazes and works -/
structure Mz where
  size : Int
  doors : List D3
  keys : List Int
  deriving DecidableEq
structure Wk where
  size : Int
  gates : List D4
  pulls : List Int
  deriving DecidableEq
instance : Inhabited Mz := ⟨⟨0, [], []⟩⟩
instance : Inhabited Wk := ⟨⟨0, [], []⟩⟩
/-- A value that reads as a maze of moderate size. -/
structure MzAt (w : World) (v : Value) (m : Mz) : Prop where
  ex : ∃ ad cd ak ck, v = .agg #[.int .i64 m.size, .slice ad m.doors.length cd, .slice ak m.keys.length ck] ∧ D3C w ad m.doors ∧ IC w ak m.keys
  nd : m.doors.length ≤ 1048576
  nk : m.keys.length ≤ 1048576
structure WkAt (w : World) (v : Value) (m : Wk) : Prop where
  ex : ∃ ad cd ak ck, v = .agg #[.int .i64 m.size, .slice ad m.gates.length cd, .slice ak m.pulls.length ck] ∧ D4C w ad m.gates ∧ IC w ak m.pulls
  nd : m.gates.length ≤ 1048576
  nk : m.pulls.length ≤ 1048576
theorem MzAt.later {w w' : World} {v : Value} {m : Mz} (h : MzAt w v m) (hb : Below w.heap.size w w') : MzAt w' v m := by
  obtain ⟨⟨ad, cd, ak, ck, hv, h1, h2⟩, h3, h4⟩ := h
  exact ⟨⟨ad, cd, ak, ck, hv, h1.later hb, h2.later hb⟩, h3, h4⟩
theorem WkAt.later {w w' : World} {v : Value} {m : Wk} (h : WkAt w v m) (hb : Below w.heap.size w w') : WkAt w' v m := by
  obtain ⟨⟨ad, cd, ak, ck, hv, h1, h2⟩, h3, h4⟩ := h
  exact ⟨⟨ad, cd, ak, ck, hv, h1.later hb, h2.later hb⟩, h3, h4⟩
/-- A maze whose memory the call owns: blocks in [lo, hi). -/
def MzOwn (lo hi : Nat) (w : World) (v : Value) (m : Mz) : Prop :=
  ∃ e3 e1 vd vk, v = .agg #[.int .i64 m.size, vd, vk] ∧ Own lo hi w e3 3 vd m.doors.length (c3 m.doors) ∧ Own lo hi w e1 1 vk m.keys.length (ints m.keys) ∧ ∀ g, vd.ownBlock = some g → vk.ownBlock ≠ some g
def WkOwn (lo hi : Nat) (w : World) (v : Value) (m : Wk) : Prop :=
  ∃ e4 e1 vd vk, v = .agg #[.int .i64 m.size, vd, vk] ∧ Own lo hi w e4 4 vd m.gates.length (c4 m.gates) ∧ Own lo hi w e1 1 vk m.pulls.length (ints m.pulls) ∧ ∀ g, vd.ownBlock = some g → vk.ownBlock ≠ some g
theorem MzOwn.mz {lo hi : Nat} {w : World} {v : Value} {m : Mz} (h : MzOwn lo hi w v m) (h1 : m.doors.length ≤ 1048576) (h2 : m.keys.length ≤ 1048576) : MzAt w v m := by
  obtain ⟨e3, e1, vd, vk, rfl, o1, o2, _⟩ := h
  obtain ⟨ad, cd, rfl, _, hd⟩ := o1.d3
  obtain ⟨ak, ck, rfl, _, hk⟩ := o2.ic
  exact ⟨⟨ad, cd, ak, ck, rfl, hd, hk⟩, h1, h2⟩
theorem WkOwn.wk {lo hi : Nat} {w : World} {v : Value} {m : Wk} (h : WkOwn lo hi w v m) (h1 : m.gates.length ≤ 1048576) (h2 : m.pulls.length ≤ 1048576) : WkAt w v m := by
  obtain ⟨e3, e1, vd, vk, rfl, o1, o2, _⟩ := h
  obtain ⟨ad, cd, rfl, _, hd⟩ := o1.d4
  obtain ⟨ak, ck, rfl, _, hk⟩ := o2.ic
  exact ⟨⟨ad, cd, ak, ck, rfl, hd, hk⟩, h1, h2⟩
theorem MzOwn.later {lo hi B : Nat} {w w' : World} {v : Value} {m : Mz} (h : MzOwn lo hi w v m) (hb : Below B w w') (hB : hi ≤ B) : MzOwn lo hi w' v m := by
  obtain ⟨e3, e1, vd, vk, hv, o1, o2, h4⟩ := h
  exact ⟨e3, e1, vd, vk, hv, o1.later hb hB, o2.later hb hB, h4⟩
theorem WkOwn.later {lo hi B : Nat} {w w' : World} {v : Value} {m : Wk} (h : WkOwn lo hi w v m) (hb : Below B w w') (hB : hi ≤ B) : WkOwn lo hi w' v m := by
  obtain ⟨e3, e1, vd, vk, hv, o1, o2, h4⟩ := h
  exact ⟨e3, e1, vd, vk, hv, o1.later hb hB, o2.later hb hB, h4⟩
theorem MzOwn.mono {lo hi lo' hi' : Nat} {w : World} {v : Value} {m : Mz} (h : MzOwn lo hi w v m) (h1 : lo' ≤ lo) (h2 : hi ≤ hi') : MzOwn lo' hi' w v m := by
  obtain ⟨e3, e1, vd, vk, hv, o1, o2, h4⟩ := h
  exact ⟨e3, e1, vd, vk, hv, o1.mono h1 h2, o2.mono h1 h2, h4⟩
theorem WkOwn.mono {lo hi lo' hi' : Nat} {w : World} {v : Value} {m : Wk} (h : WkOwn lo hi w v m) (h1 : lo' ≤ lo) (h2 : hi ≤ hi') : WkOwn lo' hi' w v m := by
  obtain ⟨e3, e1, vd, vk, hv, o1, o2, h4⟩ := h
  exact ⟨e3, e1, vd, vk, hv, o1.mono h1 h2, o2.mono h1 h2, h4⟩
/-- What the size helper of mazes answers. -/
def szMzP (left : Int) (d k : Nat) : Int := if szP left d < 0 then -1 else szP (szP left d) k
/-- What a walk takes from 'below': cells, marks, the size. -/
theorem bcell3 {W w1 : World} {B : Nat} (hb : Below B W w1) : (∀ b o, b < B → w1.cell? ⟨b, o, none⟩ = W.cell? ⟨b, o, none⟩) ∧ (∀ b o, b < B → w1.frozen? ⟨b, o, none⟩ = W.frozen? ⟨b, o, none⟩) ∧ W.heap.size ≤ w1.heap.size :=
  ⟨(bcell hb).1, (bcell hb).2, hb.size⟩
theorem own_slice {w : World} {lo size n : Nat} {e : TypeId} {v : Value} {xs : List Value} (h : w.ownsRow lo e size v n xs) : ∃ a cap, v = .slice a n cap := by
  rcases h.2 with ⟨hv, hn⟩ | ⟨g, cap, cur, hv, _⟩
  · subst hn; exact ⟨none, 0, hv⟩
  · exact ⟨_, cap, hv⟩
theorem own_block_lo {w : World} {lo size n g : Nat} {e : TypeId} {v : Value} {xs : List Value} (h : w.ownsRow lo e size v n xs) (hg : v.ownBlock = some g) : lo ≤ g := by
  rcases h.2 with ⟨hv, _⟩ | ⟨g', cap, cur, hv, hlo, _⟩
  · subst hv; cases hg
  · subst hv; cases hg; exact hlo
theorem grown_setCell (w : World) (a : Addr) (u : Value) : w.grownBy (w.setCell a u) (some a.block) :=
  ⟨rfl, rfl, rfl, by simp, fun k _ hk => heap_setCell_other w a k u (fun e => hk (by simp [e]))⟩
theorem Own.setCell {lo hi size n : Nat} {w : World} {e : TypeId} {v : Value} {xs : List Value} (h : Own lo hi w e size v n xs) {a : Addr} (ha : a.block < lo ∨ hi ≤ a.block) (u : Value) : Own lo hi (w.setCell a u) e size v n xs :=
  h.grown (grown_setCell w a u) (fun g hg => by cases hg; exact ha)
theorem Own.apart {lo hi lo' hi' size n size' n' : Nat} {w w' : World} {e e' : TypeId} {v v' : Value} {xs xs' : List Value} (h : Own lo hi w e size v n xs) (h' : Own lo' hi' w' e' size' v' n' xs') (hb : hi ≤ lo' ∨ hi' ≤ lo) : ∀ g, v.ownBlock = some g → v'.ownBlock ≠ some g := by
  intro g hg hg'
  have := h.top g hg
  have := h'.top g hg'
  have := own_block_lo h.row hg
  have := own_block_lo h'.row hg'
  omega
end Go.KD

namespace Go.Proofs.Ytcjcgcgcloanpaa
open Go.RowKit Go.KD
attribute [local go_sem] later_cell later_frozen
theorem infoI : (Try.prog.info? 3).map (fun i => (i.zero, i.size, i.bytes)) = some (some (.int .i64 0), 1, 8) := by kernel_rfl
theorem madeI (n : Nat) : (madeCells (Value.int .i64 0).cells (n * 1)).toList = ints (List.replicate n 0) := by
  show (madeCells #[.int .i64 0] (n * 1)).toList = _
  rw [toList_madeCells_one, Nat.mul_one]; simp [ints]

end Go.Proofs.Ytcjcgcgcloanpaa
namespace Go.Proofs.Ytcjcgcgcloanpaa
open Go.RowKit Go.KD
attribute [local go_sem] later_cell later_frozen

end Go.Proofs.Ytcjcgcgcloanpaa
namespace Go.KD
open Go.RowKit
/-- Of the blocks that were there only those in [lo, hi) may have changed. -/
structure Chg (lo hi : Nat) (w w' : World) : Prop where
  os : w'.os = w.os
  tape : w'.tape = w.tape
  output : w'.output = w.output
  size : w.heap.size ≤ w'.heap.size
  block : ∀ k, k < w.heap.size → (k < lo ∨ hi ≤ k) → w'.heap[k]? = w.heap[k]?
theorem Chg.trans {lo hi : Nat} {a b c : World} (h : Chg lo hi a b) (k : Chg lo hi b c) : Chg lo hi a c :=
  ⟨k.os.trans h.os, k.tape.trans h.tape, k.output.trans h.output, Nat.le_trans h.size k.size, fun i hi hk => (k.block i (Nat.lt_of_lt_of_le hi h.size) hk).trans (h.block i hi hk)⟩
theorem Chg.of_below {lo hi : Nat} {w w' : World} (h : Below w.heap.size w w') : Chg lo hi w w' := ⟨h.os, h.tape, h.output, h.size, fun k hk _ => h.block k hk⟩
theorem Chg.of_grown {lo hi : Nat} {w w' : World} {row : Option Nat} (h : w.grownBy w' row) (hr : ∀ g, row = some g → lo ≤ g ∧ g < hi) : Chg lo hi w w' :=
  ⟨h.os, h.tape, h.output, h.size, fun k hk hd => h.block k hk (fun e => by have := hr k e.symm; omega)⟩
theorem Chg.below {lo hi B : Nat} {w w' : World} (h : Chg lo hi w w') (hB : B ≤ lo) (hs : B ≤ w.heap.size) : Below B w w' := ⟨h.os, h.tape, h.output, h.size, fun k hk => h.block k (by omega) (.inl (by omega))⟩
theorem Chg.cell {lo hi : Nat} {w w' : World} (h : Chg lo hi w w') {p : Addr} (hp : p.block < w.heap.size) (hd : p.block < lo ∨ hi ≤ p.block) : w'.cell? p = w.cell? p := World.cell?_of_block (w := w) (h.block p.block hp hd)
theorem Own.chg {lo hi lo' hi' size n : Nat} {w w' : World} {e : TypeId} {v : Value} {xs : List Value} (h : Own lo hi w e size v n xs) (hc : Chg lo' hi' w w') (hd : hi ≤ lo' ∨ hi' ≤ lo) : Own lo hi w' e size v n xs := by
  obtain ⟨⟨hl, h1⟩, ht⟩ := h
  refine ⟨⟨hl, ?_⟩, ht⟩
  rcases h1 with h1 | ⟨g, cap, cur, hv, hg, hh, r⟩
  · exact .inl h1
  · refine .inr ⟨g, cap, cur, hv, hg, ?_, r⟩
    have := ht g (by rw [hv]; rfl)
    rw [hc.block g ?_ (by omega)]; exact hh
    rcases Nat.lt_or_ge g w.heap.size with h | h
    · exact h
    · rw [Array.getElem?_eq_none h] at hh; cases hh
theorem Own.grown_ne {lo hi size n : Nat} {w w' : World} {row : Option Nat} {e : TypeId} {v : Value} {xs : List Value} (h : Own lo hi w e size v n xs) (hb : w.grownBy w' row) (hr : ∀ g, v.ownBlock = some g → row ≠ some g) : Own lo hi w' e size v n xs := by
  obtain ⟨⟨hl, h1⟩, ht⟩ := h
  refine ⟨⟨hl, ?_⟩, ht⟩
  rcases h1 with h1 | ⟨g, cap, cur, hv, hg, hh, r⟩
  · exact .inl h1
  · refine .inr ⟨g, cap, cur, hv, hg, ?_, r⟩
    rw [hb.block g ?_ (fun e => hr g (by rw [hv]; rfl) e.symm)]; exact hh
    rcases Nat.lt_or_ge g w.heap.size with h | h
    · exact h
    · rw [Array.getElem?_eq_none h] at hh; cases hh
theorem Own.blocks {lo hi size n : Nat} {w : World} {e : TypeId} {v : Value} {xs : List Value} (h : Own lo hi w e size v n xs) : ∀ g, v.ownBlock = some g → lo ≤ g ∧ g < hi := fun g hg => ⟨own_block_lo h.row hg, h.top g hg⟩
theorem Own.slice {lo hi size n : Nat} {w : World} {e : TypeId} {v : Value} {xs : List Value} (h : Own lo hi w e size v n xs) : ∃ a cap, v = .slice a n cap := own_slice h.row
theorem ic_of' {lo hi n cap : Nat} {w : World} {e : TypeId} {a : Option Addr} {l : List Int} (h : Own lo hi w e 1 (.slice a n cap) n (ints l)) (hn : n = l.length) : IC w a l := by
  subst hn
  obtain ⟨a', c', hv, _, hi⟩ := h.ic
  cases hv; exact hi
theorem ic_of {lo hi cap : Nat} {w : World} {e : TypeId} {a : Option Addr} {l : List Int} (h : Own lo hi w e 1 (.slice a l.length cap) l.length (ints l)) : IC w a l := ic_of' h rfl
theorem ic_marks {lo hi n cap : Nat} {k : Int} {w : World} {e : TypeId} {a : Option Addr} (h : Own lo hi w e 1 (.slice a n cap) n (ints (marks n k))) : IC w a (marks n k) := ic_of' h (length_marks n k).symm
end Go.KD
namespace Go.Proofs.Ytcjcgcgcloanpaa
open Go.RowKit Go.KD
attribute [local go_sem] later_cell later_frozen

end Go.Proofs.Ytcjcgcgcloanpaa
namespace Go.KD
def inB (x a b : Int) : Bool := decide (a ≤ x) && decide (x ≤ b)
def setB (s : Int) : Bool := decide (0 ≤ s) && decide (s ≤ 63)
theorem inB_true {x a b : Int} : inB x a b = true ↔ a ≤ x ∧ x ≤ b := by simp [inB]
theorem inB_false {x a b : Int} : inB x a b = false ↔ ¬ (a ≤ x ∧ x ≤ b) := by rw [← inB_true]; simp
theorem setB_true {x : Int} : setB x = true ↔ 0 ≤ x ∧ x ≤ 63 := by simp [setB]
theorem setB_inB (x : Int) : setB x = inB x 0 63 := rfl
def cmpI (a b : Int) : Int := if a < b then -1 else if b < a then 1 else 0
def orI : List Int → Int
  | [] => 0
  | x :: l => if x ≠ 0 then x else orI l
def lt3 (d e : D3) : Bool := if d.1 ≠ e.1 then decide (d.1 < e.1) else if d.2.1 ≠ e.2.1 then decide (d.2.1 < e.2.1) else decide (d.2.2 < e.2.2)
def lt4 (d e : D4) : Bool := if d.1 ≠ e.1 then decide (d.1 < e.1) else if d.2.1 ≠ e.2.1 then decide (d.2.1 < e.2.1) else if d.2.2.1 ≠ e.2.2.1 then decide (d.2.2.1 < e.2.2.1) else decide (d.2.2.2 < e.2.2.2)
def cmp3 (d e : D3) : Int := orI [cmpI d.1 e.1, cmpI d.2.1 e.2.1, cmpI d.2.2 e.2.2]
def cmp4 (d e : D4) : Int := orI [cmpI d.1 e.1, cmpI d.2.1 e.2.1, cmpI d.2.2.1 e.2.2.1, cmpI d.2.2.2 e.2.2.2]
theorem cmpI_zero {a b : Int} : cmpI a b = 0 ↔ a = b := by unfold cmpI; split <;> (try split) <;> omega
theorem cmpI_neg {a b : Int} : cmpI a b < 0 ↔ a < b := by unfold cmpI; split <;> (try split) <;> omega
theorem cmp3_neg (d e : D3) : decide (cmp3 d e < 0) = lt3 d e := by
  obtain ⟨a, b, c⟩ := d; obtain ⟨x, y, z⟩ := e
  simp only [cmp3, orI, lt3]
  by_cases h1 : a = x
  · by_cases h2 : b = y
    · by_cases h3 : c = z
      · simp [h1, h2, h3, cmpI_zero.2]
      · simp [h1, h2, h3, cmpI_zero, cmpI_neg]
    · simp [h1, h2, cmpI_zero, cmpI_neg]
  · simp [h1, cmpI_zero, cmpI_neg]
theorem cmp4_neg (d e : D4) : decide (cmp4 d e < 0) = lt4 d e := by
  obtain ⟨a, b, c, u⟩ := d; obtain ⟨x, y, z, v⟩ := e
  simp only [cmp4, orI, lt4]
  by_cases h1 : a = x
  · by_cases h2 : b = y
    · by_cases h3 : c = z
      · by_cases h4 : u = v
        · simp [h1, h2, h3, h4, cmpI_zero.2]
        · simp [h1, h2, h3, h4, cmpI_zero, cmpI_neg]
      · simp [h1, h2, h3, cmpI_zero, cmpI_neg]
    · simp [h1, h2, cmpI_zero, cmpI_neg]
  · simp [h1, cmpI_zero, cmpI_neg]
/-- A gate at its place. -/
def gateB (size : Int) (gs : List D4) (k : Nat) : Bool :=
  inB gs[k]!.1 0 (size - 1) && inB gs[k]!.2.1 (gs[k]!.1 + 1) (size - 1) && setB gs[k]!.2.2.1 && inB gs[k]!.2.2.2 0 1 && (k == 0 || lt4 gs[k - 1]! gs[k]!)
def doorB (size : Int) (ds : List D3) (k : Nat) : Bool :=
  inB ds[k]!.1 0 (size - 1) && inB ds[k]!.2.1 (ds[k]!.1 + 1) (size - 1) && setB ds[k]!.2.2 && (k == 0 || lt3 ds[k - 1]! ds[k]!)
structure WkOk (m : Wk) : Prop where
  s1 : 1 ≤ m.size
  s2 : m.size ≤ 12
  ng : m.gates.length ≤ 30
  np : (m.pulls.length : Int) = m.size
  gt : ∀ k, k < m.gates.length → gateB m.size m.gates k = true
  pl : ∀ k, k < m.pulls.length → setB m.pulls[k]! = true
structure MzOk (m : Mz) : Prop where
  s1 : 1 ≤ m.size
  s2 : m.size ≤ 12
  nd : m.doors.length ≤ 30
  nk : (m.keys.length : Int) = m.size
  dr : ∀ k, k < m.doors.length → doorB m.size m.doors k = true
  ks : ∀ k, k < m.keys.length → setB m.keys[k]! = true
open Classical in
noncomputable def worksB (m : Wk) : Bool := decide (WkOk m)
open Classical in
noncomputable def mazeB (m : Mz) : Bool := decide (MzOk m)
theorem worksB_true {m : Wk} : worksB m = true ↔ WkOk m := by simp [worksB]
theorem mazeB_true {m : Mz} : mazeB m = true ↔ MzOk m := by simp [mazeB]
theorem worksB_false {m : Wk} : worksB m = false ↔ ¬ WkOk m := by simp [worksB]
theorem mazeB_false {m : Mz} : mazeB m = false ↔ ¬ MzOk m := by simp [mazeB]
def anyP (p : Int → Bool) (l : List Int) : Bool := l.any p
def idxP (p : Int → Bool) (l : List Int) : Int := match l.findIdx? p with | some k => (k : Int) | none => -1
theorem idxP_none {p : Int → Bool} {l : List Int} (h : ∀ j, j < l.length → p l[j]! = false) : idxP p l = -1 := by
  unfold idxP
  rw [List.findIdx?_eq_none_iff.2]
  intro x hx
  obtain ⟨j, hj, rfl⟩ := List.mem_iff_getElem.1 hx
  have := h j hj
  rwa [getElem!_pos l j hj] at this
theorem idxP_at {p : Int → Bool} {l : List Int} {k : Nat} (hk : k < l.length) (h : ∀ j, j < k → p l[j]! = false) (h1 : p l[k]! = true) : idxP p l = k := by
  unfold idxP
  rw [List.findIdx?_eq_some_iff_getElem.2 ⟨hk, by rwa [getElem!_pos l k hk] at h1, fun j hj => by have := h j hj; rw [getElem!_pos l j (by omega)] at this; simp [this]⟩]
theorem anyP_idx (p : Int → Bool) (l : List Int) : anyP p l = decide (0 ≤ idxP p l) := by
  unfold anyP idxP
  cases h : l.findIdx? p with
  | none =>
    rw [List.findIdx?_eq_none_iff] at h
    simp; intro x hx; simp [h x hx]
  | some k =>
    obtain ⟨hk, h1, _⟩ := List.findIdx?_eq_some_iff_getElem.1 h
    simp; exact ⟨l[k], List.getElem_mem hk, h1⟩
theorem worksB_no {m : Wk} (h : ¬ WkOk m) : worksB m = false := worksB_false.2 h
theorem mazeB_no {m : Mz} (h : ¬ MzOk m) : mazeB m = false := mazeB_false.2 h
theorem gateB_eq {size : Int} {gs : List D4} {k : Nat} {a b c d : Int} (h : gs[k]! = (a, b, c, d)) : gateB size gs k = (inB a 0 (size - 1) && inB b (a + 1) (size - 1) && setB c && inB d 0 1 && (k == 0 || lt4 gs[k - 1]! (a, b, c, d))) := by
  unfold gateB; rw [h]
theorem doorB_eq {size : Int} {ds : List D3} {k : Nat} {a b c : Int} (h : ds[k]! = (a, b, c)) : doorB size ds k = (inB a 0 (size - 1) && inB b (a + 1) (size - 1) && setB c && (k == 0 || lt3 ds[k - 1]! (a, b, c))) := by
  unfold doorB; rw [h]
theorem gateB_impl {size : Int} {gs : List D4} {k : Nat} {a b c d : Int} (h : gs[k]! = (a, b, c, d)) : gateB size gs k = (inB b 1 (size - 1) && inB a 0 (b - 1) && setB c && inB d 0 1 && (k == 0 || !decide (0 ≤ cmp4 gs[k - 1]! (a, b, c, d)))) := by
  rw [gateB_eq h, ← cmp4_neg]
  have e : (inB a 0 (size - 1) && inB b (a + 1) (size - 1)) = (inB b 1 (size - 1) && inB a 0 (b - 1)) := by
    rw [Bool.eq_iff_iff]; simp only [Bool.and_eq_true, inB_true]; omega
  have e2 : ∀ t : Int, decide (t < 0) = !decide (0 ≤ t) := fun t => by rw [Bool.eq_iff_iff]; simp
  rw [e, e2]
theorem doorB_impl {size : Int} {ds : List D3} {k : Nat} {a b c : Int} (h : ds[k]! = (a, b, c)) : doorB size ds k = (!decide (a < 0) && !decide (b ≤ a) && !decide (size ≤ b) && setB c && (k == 0 || !decide (0 ≤ cmp3 ds[k - 1]! (a, b, c)))) := by
  rw [doorB_eq h, ← cmp3_neg]
  have e : (inB a 0 (size - 1) && inB b (a + 1) (size - 1)) = (!decide (a < 0) && !decide (b ≤ a) && !decide (size ≤ b)) := by
    rw [Bool.eq_iff_iff]; simp only [Bool.and_eq_true, inB_true, Bool.not_eq_true', decide_eq_false_iff_not]; omega
  have e2 : ∀ t : Int, decide (t < 0) = !decide (0 ≤ t) := fun t => by rw [Bool.eq_iff_iff]; simp
  rw [e, e2 (cmp3 ds[k - 1]! (a, b, c))]
end Go.KD

namespace Go.KD
open Go.RowKit
/-- A slice that was written out. -/
theorem ic_lit (w : World) (T : TypeId) (c : Array Value) (l : List Int) (n : Nat) (hn : n = w.heap.size) (h : c = (ints l).toArray) : IC (w.alloc (.cells c T)) (some ⟨n, 0, none⟩) l := by
  intro k hk
  refine ⟨n, 0, rfl, by simp [hn], ?_⟩
  rw [Nat.zero_add, World.cell?_alloc_at c T n k hn, h, List.getElem?_toArray, ints, List.getElem?_map, List.getElem?_eq_getElem hk, getElem!_pos l k hk]
  rfl
theorem run_callFunc {P : Program} {F : FuncId} {fn : Func} (hf1 : P.funcs[F]? = some fn) (hf2 : (fn.name == "runtime.NumGoroutine") = false) (hf3 : fn.body.isNone = false) (args : Array Value) (w : World) :
    Sem.run P (callFunc F args) w = .ok (.enter F args) w := by
  show Sem.run P (match P.funcs[F]? with | none => stuck "call: no such function" | some fn => _) w = _
  rw [hf1]
  simp only [hf2, hf3, Bool.false_eq_true, if_false]
  rfl
theorem szMzP_le {d k : Nat} (h : ¬ szMzP 1048576 d k < 0) : d ≤ 1048576 ∧ k ≤ 1048576 := by
  by_cases h1 : (1048576 : Int) - d < 0
  · exact absurd (by unfold szMzP szP; rw [if_pos (by rw [if_pos h1]; omega)]; omega) h
  · have e : szP 1048576 d = 1048576 - d := by unfold szP; rw [if_neg h1]
    by_cases h2 : (1048576 : Int) - d - k < 0
    · exact absurd (by unfold szMzP; rw [e, if_neg h1]; unfold szP; rw [if_pos h2]; omega) h
    · omega
/-- How many bits of a number below 4096 are set. -/
def popN (x : Nat) : Nat := ((List.range 12).filter fun i => x.testBit i).length
def popc (x : Nat) : Int := popN x
theorem popN_le (x : Nat) : popN x ≤ 12 := by
  unfold popN
  exact Nat.le_trans (List.length_filter_le _ _) (by simp)
theorem popc_le (x : Nat) : popc x ≤ 12 := by have := popN_le x; unfold popc; omega
theorem pop_half : ∀ n, n < 64 → popN n = n % 2 + popN (n / 2) := by decide +kernel
theorem pop_le6 : ∀ n, n < 64 → popN n ≤ 6 := by decide +kernel
theorem and_one : ∀ n : Nat, n < 64 → bits BinOp.and IntKind.i64 (n : Int) 1 = ((n % 2 : Nat) : Int) := by decide +kernel
theorem popN_zero : popN 0 = 0 := by decide
theorem ret_tup2 {a b : Array Value} (h : a = b) : Ending.returned (.tuple a) = .returned (.tuple b) := by rw [h]
end Go.KD

namespace Go.KD
open Go.RowKit Go.ChangeShapes Go.WideShapes Go.ChangeAt Go.Joins Go.Deep
variable {H : Type} {enc : TypeId × Value → H} {P : Program} {w : World} {base : Nat} {held : Bool}
def wfI (n : Int) : Prop := (Lit.int .i64 n).wf = true
theorem mapM_get {α β : Type} {f : α → Option β} : ∀ {l : List α} {r : List β}, l.mapM f = some r → ∀ i (h : i < l.length), ∃ y, f l[i] = some y ∧ r[i]? = some y
  | [], r, _, i, h => by simp at h
  | a :: l, r, hm, i, h => by
    simp only [List.mapM_cons, Option.pure_def, Option.bind_eq_bind, Option.bind_eq_some_iff, Option.some.injEq] at hm
    obtain ⟨y, hy, ys, hys, rfl⟩ := hm
    cases i with
    | zero => exact ⟨y, hy, rfl⟩
    | succ i =>
      obtain ⟨z, hz, hz'⟩ := mapM_get hys i (by simpa using h)
      exact ⟨z, by simpa using hz, by simpa using hz'⟩
theorem cells_at {a : Addr} {n : Nat} {cs : List Value} (h : w.cells? base a n = some cs) (i : Nat) (hi : i < n) : w.cell? (a.add i) = cs[i]? := by
  unfold World.cells? at h
  split at h
  · obtain ⟨y, hy, hr⟩ := mapM_get h i (by simpa using hi)
    rw [hr, ← hy]; simp
  · cases h
theorem add_at {b off n : Nat} {a : Addr} (h : a = ⟨b, off, none⟩) : a.add n = ⟨b, off + n, none⟩ := by
  subst h; unfold Addr.add; split
  · rename_i h; subst h; rfl
  · rfl
theorem add_add {a : Addr} (hs : a.spot = none) (m n : Nat) : (a.add m).add n = ⟨a.block, a.off + m + n, none⟩ := by
  obtain ⟨b, off, sp⟩ := a
  simp only at hs; subst hs
  rw [add_at (a := ⟨b, off, none⟩) rfl, add_at rfl]
theorem open_ic {t e : TypeId} {fuel : Nat} {v : Value} {x : DataW H × List MemPlace} (ht : P.underlying t = some (.slice e)) (he : P.underlying e = some (.int .i64)) (hc : P.cellsOf e = 1)
    (h : DataW.trod enc P w base (fun _ => true) held fuel t [v] = some x) :
    ∃ a cap, ∃ l : List Int, v = .slice a l.length cap ∧ l.length ≤ maxLen ∧ IC w a l ∧ ∀ n ∈ l, wfI n := by
  rcases open_ints ht he hc h with ⟨hcs, _⟩ | ⟨a, len, cap, zs, hcs, _, hl, hm, hz, _, hcell, hwf⟩
  · simp only [List.cons.injEq, and_true] at hcs
    exact ⟨none, 0, [], hcs, by unfold maxLen; simp, fun k hk => by simp at hk, fun n hn => by simp at hn⟩
  · simp only [List.cons.injEq, and_true] at hcs
    simp only [if_true] at hz
    refine ⟨some a, cap, zs.take len, by rw [List.length_take, Nat.min_eq_left (by omega)]; exact hcs, by simp; omega, fun k hk => ?_, fun n hn => hwf n (List.mem_of_mem_take hn)⟩
    simp only [List.length_take] at hk
    have hk' : k < zs.length := by omega
    have c := hcell k hk'
    have hsp : (a.add k).spot = none := World.cell?_spot c
    have hbl := World.block_lt_of_cell? w _ c
    have ha0 := World.cell?_spot (hcell 0 (by omega))
    have ha : a.spot = none := by unfold Addr.add at ha0; rw [if_pos rfl] at ha0; exact ha0
    obtain ⟨b, off, sp⟩ := a
    simp only at ha; subst ha
    rw [add_at (a := ⟨b, off, none⟩) rfl] at c hbl
    refine ⟨b, off, rfl, hbl, ?_⟩
    rw [c, getElem!_pos _ k (by simp; omega), List.getElem_take]
    simp [List.getD_eq_getElem?_getD, List.getElem?_eq_getElem hk']
theorem arr_cells {e i n m : Nat} {cs : List Value} {y : DataW H × List MemPlace} (he : P.underlying e = some (.array n i)) (hi : P.underlying i = some (.int .i64)) (hc : P.cellsOf i = 1)
    (h : DataW.trod enc P w base (fun _ => true) held m e cs = some y) : ∀ j, j < n → ∃ z, cs[j]? = some (.int .i64 z) ∧ wfI z := by
  obtain ⟨xs, m', rfl, _, _, hx, hj⟩ := DataW.trod_array he h
  intro j hjn
  have := hj j hjn
  rw [hc, Nat.mul_one, List.getElem?_eq_getElem (by omega)] at this
  obtain ⟨z, hz, _, hw⟩ := DataW.trod_int hi this
  refine ⟨z, ?_, hw⟩
  have h0 : ((cs.drop j).take 1)[0]? = some (.int .i64 z) := by rw [hz]; rfl
  simpa [List.getElem?_take, List.getElem?_drop] using h0
theorem list_of {α : Type} [Inhabited α] {p : Nat → α → Prop} {n : Nat} (h : ∀ k, k < n → ∃ x, p k x) : ∃ l : List α, l.length = n ∧ ∀ k, k < n → p k l[k]! := by
  refine ⟨(List.range n).attach.map fun k => (h k.1 (by simpa using k.2)).choose, by simp, fun k hk => ?_⟩
  rw [getElem!_pos _ k (by simpa using hk)]
  simp only [List.getElem_map, List.getElem_attach, List.getElem_range]
  exact (h k hk).choose_spec
theorem open_d4 {t e i : TypeId} {fuel : Nat} {v : Value} {x : DataW H × List MemPlace} (ht : P.underlying t = some (.slice e)) (he : P.underlying e = some (.array 4 i)) (hi : P.underlying i = some (.int .i64)) (hc : P.cellsOf e = 4) (hci : P.cellsOf i = 1)
    (h : DataW.trod enc P w base (fun _ => true) held fuel t [v] = some x) :
    ∃ a cap, ∃ l : List D4, v = .slice a l.length cap ∧ l.length ≤ maxLen ∧ D4C w a l ∧ ∀ d ∈ l, wfI d.1 ∧ wfI d.2.1 ∧ wfI d.2.2.1 ∧ wfI d.2.2.2 := by
  rcases open_slice ht h with ⟨hcs, _⟩ | ⟨a, len, cap, m, n, D, Pl, hcs, _, hl, hm, hmm, _, hel⟩
  · simp only [List.cons.injEq, and_true] at hcs
    exact ⟨none, 0, [], hcs, by unfold maxLen; simp, fun k hk => by simp at hk, fun n hn => by simp at hn⟩
  · simp only [List.cons.injEq, and_true] at hcs
    simp only [if_true] at hmm
    subst hmm
    have each : ∀ k, k < len → ∃ d : D4, (∃ b off, some a = some ⟨b, off, none⟩ ∧ b < w.heap.size ∧ w.cell? ⟨b, off + k * 4, none⟩ = some (.int .i64 d.1) ∧ w.cell? ⟨b, off + k * 4 + 1, none⟩ = some (.int .i64 d.2.1) ∧ w.cell? ⟨b, off + k * 4 + 2, none⟩ = some (.int .i64 d.2.2.1) ∧ w.cell? ⟨b, off + k * 4 + 3, none⟩ = some (.int .i64 d.2.2.2)) ∧ wfI d.1 ∧ wfI d.2.1 ∧ wfI d.2.2.1 ∧ wfI d.2.2.2 := by
      intro k hk
      obtain ⟨cs', hcs', htr⟩ := hel k (by omega)
      rw [hc] at hcs'
      have hz := arr_cells he hi hci htr
      obtain ⟨z0, h0, w0⟩ := hz 0 (by omega)
      obtain ⟨z1, h1, w1⟩ := hz 1 (by omega)
      obtain ⟨z2, h2, w2⟩ := hz 2 (by omega)
      obtain ⟨z3, h3, w3⟩ := hz 3 (by omega)
      have c0 := (cells_at hcs' 0 (by omega)).trans h0
      have c1 := (cells_at hcs' 1 (by omega)).trans h1
      have c2 := (cells_at hcs' 2 (by omega)).trans h2
      have c3 := (cells_at hcs' 3 (by omega)).trans h3
      have hs0 := World.cell?_spot c0
      have ha : a.spot = none := by
        obtain ⟨cs0, hcs0, htr0⟩ := hel 0 (by omega)
        rw [hc] at hcs0
        obtain ⟨z, hz0, _⟩ := arr_cells he hi hci htr0 0 (by omega)
        have := World.cell?_spot ((cells_at hcs0 0 (by omega)).trans hz0)
        unfold Addr.add at this
        simpa using this
      have hb := World.block_lt_of_cell? w _ c1
      rw [add_add ha] at c0 c1 c2 c3 hb
      obtain ⟨b, off, sp⟩ := a
      simp only at ha; subst ha
      exact ⟨(z0, z1, z2, z3), ⟨b, off, rfl, hb, c0, c1, c2, c3⟩, w0, w1, w2, w3⟩
    obtain ⟨l, hlen, hp⟩ := list_of each
    refine ⟨some a, _, l, by rw [hlen]; exact hcs, by omega, fun k hk => (hp k (by omega)).1, fun d hd => ?_⟩
    obtain ⟨k, hk, rfl⟩ := List.mem_iff_getElem.1 hd
    have := (hp k (by omega)).2
    rwa [getElem!_pos l k hk] at this
theorem open_d3 {t e i : TypeId} {fuel : Nat} {v : Value} {x : DataW H × List MemPlace} (ht : P.underlying t = some (.slice e)) (he : P.underlying e = some (.array 3 i)) (hi : P.underlying i = some (.int .i64)) (hc : P.cellsOf e = 3) (hci : P.cellsOf i = 1)
    (h : DataW.trod enc P w base (fun _ => true) held fuel t [v] = some x) :
    ∃ a cap, ∃ l : List D3, v = .slice a l.length cap ∧ l.length ≤ maxLen ∧ D3C w a l ∧ ∀ d ∈ l, wfI d.1 ∧ wfI d.2.1 ∧ wfI d.2.2 := by
  rcases open_slice ht h with ⟨hcs, _⟩ | ⟨a, len, cap, m, n, D, Pl, hcs, _, hl, hm, hmm, _, hel⟩
  · simp only [List.cons.injEq, and_true] at hcs
    exact ⟨none, 0, [], hcs, by unfold maxLen; simp, fun k hk => by simp at hk, fun n hn => by simp at hn⟩
  · simp only [List.cons.injEq, and_true] at hcs
    simp only [if_true] at hmm
    subst hmm
    have each : ∀ k, k < len → ∃ d : D3, (∃ b off, some a = some ⟨b, off, none⟩ ∧ b < w.heap.size ∧ w.cell? ⟨b, off + k * 3, none⟩ = some (.int .i64 d.1) ∧ w.cell? ⟨b, off + k * 3 + 1, none⟩ = some (.int .i64 d.2.1) ∧ w.cell? ⟨b, off + k * 3 + 2, none⟩ = some (.int .i64 d.2.2)) ∧ wfI d.1 ∧ wfI d.2.1 ∧ wfI d.2.2 := by
      intro k hk
      obtain ⟨cs', hcs', htr⟩ := hel k (by omega)
      rw [hc] at hcs'
      have hz := arr_cells he hi hci htr
      obtain ⟨z0, h0, w0⟩ := hz 0 (by omega)
      obtain ⟨z1, h1, w1⟩ := hz 1 (by omega)
      obtain ⟨z2, h2, w2⟩ := hz 2 (by omega)
      have c0 := (cells_at hcs' 0 (by omega)).trans h0
      have c1 := (cells_at hcs' 1 (by omega)).trans h1
      have c2 := (cells_at hcs' 2 (by omega)).trans h2
      have ha : a.spot = none := by
        obtain ⟨cs0, hcs0, htr0⟩ := hel 0 (by omega)
        rw [hc] at hcs0
        obtain ⟨z, hz0, _⟩ := arr_cells he hi hci htr0 0 (by omega)
        have := World.cell?_spot ((cells_at hcs0 0 (by omega)).trans hz0)
        unfold Addr.add at this
        simpa using this
      have hb := World.block_lt_of_cell? w _ c1
      rw [add_add ha] at c0 c1 c2 hb
      obtain ⟨b, off, sp⟩ := a
      simp only at ha; subst ha
      exact ⟨(z0, z1, z2), ⟨b, off, rfl, hb, c0, c1, c2⟩, w0, w1, w2⟩
    obtain ⟨l, hlen, hp⟩ := list_of each
    refine ⟨some a, _, l, by rw [hlen]; exact hcs, by omega, fun k hk => (hp k (by omega)).1, fun d hd => ?_⟩
    obtain ⟨k, hk, rfl⟩ := List.mem_iff_getElem.1 hd
    have := (hp k (by omega)).2
    rwa [getElem!_pos l k hk] at this
end Go.KD

namespace Go.Proofs.Ytcjcgcgcloanpaa
open Go.RowKit Go.KD
attribute [local go_sem] later_cell later_frozen
theorem l1In_c (x a b : Int) (w : World) : Calls Try.prog 166 #[.int .i64 x, .int .i64 a, .int .i64 b] w fun e w' => e = .returned (.bool (inB x a b)) ∧ w = w' := by
  go_enter Try.func166, Try.ntmps166
  go_wp2
  all_goals (go_ret; exact ⟨ret_bool (by simp [inB]; omega), rfl⟩)
theorem l2Set_c (x : Int) (w : World) : Calls Try.prog 167 #[.int .i64 x] w fun e w' => e = .returned (.bool (setB x)) ∧ w = w' := by
  go_enter Try.func167, Try.ntmps167
  go_wp2_with (go_at_call 166; refine (l1In_c _ _ _ _).mono ?_; rintro e w' ⟨rfl, rfl⟩)
  go_ret
  exact ⟨ret_bool rfl, rfl⟩
theorem within_c (x a b : Int) (w : World) : Calls Try.prog 163 #[.int .i64 x, .int .i64 a, .int .i64 b] w fun e w' => e = .returned (.bool (inB x a b)) ∧ w = w' := by
  go_enter Try.func163, Try.ntmps163
  go_wp2
  all_goals (go_ret; exact ⟨ret_bool (by simp [inB]; omega), rfl⟩)
theorem isSet_c (x : Int) (w : World) : Calls Try.prog 122 #[.int .i64 x] w fun e w' => e = .returned (.bool (setB x)) ∧ w = w' := by
  go_enter Try.func122, Try.ntmps122
  go_wp2_with (go_at_call 163; refine (within_c _ _ _ _).mono ?_; rintro e w' ⟨rfl, rfl⟩)
  go_ret
  exact ⟨ret_bool rfl, rfl⟩
set_option maxHeartbeats 1000000 in
theorem l2Before_c (a b c x y z : Int) (w : World) : Calls Try.prog 168 #[.agg #[.int .i64 a, .int .i64 b, .int .i64 c], .agg #[.int .i64 x, .int .i64 y, .int .i64 z]] w fun e w' =>
   e = .returned (.bool (lt3 (a, b, c) (x, y, z))) ∧ Below w.heap.size w w' := by
  go_enter Try.func168, Try.ntmps168
  go_wp2
  refine wp_loop_rounds 4 ?_
  (rw [rounds_succ]; go_wp2; go_quiet (fail); go_wp2)
  · go_quiet (fail); go_wp2; go_ret; exact ⟨ret_bool (by simp_all [lt3]), by (repeat (first | exact Below.refl _ _ | apply Below.drew | apply below_drewN | (refine Below.setCell ?_ (by first | omega | (simp; done) | (simp; omega) | (dsimp only; omega)) _) | (refine Below.alloc ?_ (by first | omega | (simp; done) | (simp; omega) | (dsimp only; omega)) _)))⟩
  all_goals (rw [rounds_succ]; go_wp2; go_quiet (fail); go_wp2)
  · go_quiet (fail); go_wp2; go_ret; exact ⟨ret_bool (by simp_all [lt3]), by (repeat (first | exact Below.refl _ _ | apply Below.drew | apply below_drewN | (refine Below.setCell ?_ (by first | omega | (simp; done) | (simp; omega) | (dsimp only; omega)) _) | (refine Below.alloc ?_ (by first | omega | (simp; done) | (simp; omega) | (dsimp only; omega)) _)))⟩
  all_goals (rw [rounds_succ]; go_wp2; go_quiet (fail); go_wp2)
  · go_quiet (fail); go_wp2; go_ret; exact ⟨ret_bool (by simp_all [lt3]), by (repeat (first | exact Below.refl _ _ | apply Below.drew | apply below_drewN | (refine Below.setCell ?_ (by first | omega | (simp; done) | (simp; omega) | (dsimp only; omega)) _) | (refine Below.alloc ?_ (by first | omega | (simp; done) | (simp; omega) | (dsimp only; omega)) _)))⟩
  all_goals (rw [rounds_succ]; go_wp2)
  · go_ret; exact ⟨ret_bool (by simp_all [lt3]), by (repeat (first | exact Below.refl _ _ | apply Below.drew | apply below_drewN | (refine Below.setCell ?_ (by first | omega | (simp; done) | (simp; omega) | (dsimp only; omega)) _) | (refine Below.alloc ?_ (by first | omega | (simp; done) | (simp; omega) | (dsimp only; omega)) _)))⟩
theorem isNaN_c (a : Int) (w : World) : Calls Try.prog 188 #[.int .i64 a] w fun e w' => e = .returned (.bool false) ∧ w = w' := by
  go_enter Try.func188, Try.ntmps188
  go_wp2
  go_ret
  exact ⟨ret_bool (by simp), rfl⟩
theorem compare_c (a b : Int) (w : World) : Calls Try.prog 186 #[.int .i64 a, .int .i64 b] w fun e w' => e = .returned (.int .i64 (cmpI a b)) ∧ w' = w := by
  go_enter Try.func186, Try.ntmps186
  go_wp2_with (go_at_call 188; refine (isNaN_c _ _).mono ?_; rintro e w' ⟨rfl, rfl⟩)
  all_goals (go_ret; exact ⟨ret_int (by unfold cmpI; split <;> (try split) <;> omega), rfl⟩)
theorem or_c (a : Option Addr) (cap n : Nat) (l : List Int) (w : World) (hn : n = l.length) (hA : IC w a l) (hl : n ≤ 1000) : Calls Try.prog 185 #[.slice a n cap] w fun e w' => e = .returned (.int .i64 (orI l)) ∧ w = w' := by
  have HN := Lib.hid hn
  clear hn
  go_enter Try.func185, Try.ntmps185
  go_wp2
  go_loop [5, 8] (fun _ i => ∃ k : Nat, k ≤ n ∧ i = .int .i64 k ∧ Hid (orI l = orI (l.drop k))) (fun _ i => n - (intOf i).toNat)
  case atStart => exact ⟨0, Nat.zero_le _, rfl, rfl⟩
  case round =>
    obtain ⟨k, hk, rfl, HK⟩ := hrel
    by_cases hlt : k < n
    · have hlt' : k < l.length := by rw [← HN.out]; exact hlt
      obtain ⟨b, off, x, rfl, HX, hbs, e0⟩ := hA.at k hlt'
      have HD : Hid (l.drop k = x :: l.drop (k + 1)) := by
        have := HX.out; rw [getElem!_pos l k hlt'] at this
        show _ = _
        rw [List.drop_eq_getElem_cons hlt', this]
      by_cases h0 : x = 0
      · subst h0
        go_wp2
        go_round
        case rel => exact ⟨k+1, by omega, by go_num, by have := HK.out; rw [HD.out] at this; simpa [orI, Hid] using this⟩
        case measure => simp [intOf]; omega
      · have g0 : (x != 0) = true := by simpa using h0
        go_wp2
        go_ret
        exact ⟨ret_int (by rw [HK.out, HD.out]; simp [orI, h0]), rfl⟩
    · go_wp2
      go_ret
      exact ⟨ret_int (by rw [HK.out, List.drop_of_length_le (by have := HN.out; omega)]; rfl), rfl⟩
end Go.Proofs.Ytcjcgcgcloanpaa

namespace Go.Proofs.Ytcjcgcgcloanpaa
open Go.RowKit Go.KD
attribute [local go_sem] later_cell later_frozen
theorem l2Many_c (x : Nat) (hx : x < 64) (w : World) : Calls Try.prog 174 #[.int .i64 x] w fun e w' => e = .returned (.int .i64 (popc x)) ∧ w = w' := by
  go_enter Try.func174, Try.ntmps174
  go_wp2
  go_loop [0, 3] (fun s c => ∃ n : Nat, n < 64 ∧ s = .int .i64 n ∧ ∃ k : Nat, k ≤ 6 ∧ c = .int .i64 k ∧ Hid (popN x = k + popN n)) (fun s _ => (intOf s).toNat)
  case atStart => exact ⟨x, hx, rfl, 0, by omega, rfl, by show _ = _; omega⟩
  case round =>
    obtain ⟨n, hn, rfl, k, hk, rfl, HK⟩ := hrel
    by_cases h0 : 0 < n
    · have e1 : bits BinOp.and IntKind.i64 (n : Int) 1 = ((n % 2 : Nat) : Int) := and_one n hn
      have hm : n % 2 < 2 := Nat.mod_lt _ (by omega)
      have hp := pop_half n hn
      have HP := Lib.hid hp
      have hb := pop_le6 x hx
      clear hp
      go_wp2
      go_round
      case rel => exact ⟨n / 2, by omega, by first | go_num | (congr 1; omega), k + n % 2, by have := HK.out; have := HP.out; omega, by first | go_num | (congr 1; omega), by have := HK.out; have := HP.out; show _ = _; omega⟩
      case measure => simp [intOf]; omega
    · obtain rfl : n = 0 := by omega
      go_wp2
      go_ret
      exact ⟨ret_int (by have := HK.out; rw [popN_zero] at this; unfold popc; omega), rfl⟩

end Go.Proofs.Ytcjcgcgcloanpaa
namespace Go.KD
open Go.RowKit
theorem wraps_i64 (n : Int) (h₀ : 0 ≤ n) (h₁ : n < 2 ^ 40) : IntKind.i64.wrap n = n := by rw [IntKind.wrap_i64]; omega
theorem i64_and (a b : Nat) (ha : a < 1099511627776) (hb : b < 1099511627776) : bits .and .i64 (a : Int) (b : Int) = ((a &&& b : Nat) : Int) := (bits_nat .i64 40 (by decide) wraps_i64 a b ha hb).1
theorem i64_or (a b : Nat) (ha : a < 1099511627776) (hb : b < 1099511627776) : bits .or .i64 (a : Int) (b : Int) = ((a ||| b : Nat) : Int) := (bits_nat .i64 40 (by decide) wraps_i64 a b ha hb).2
theorem bits_xor_nat (k : IntKind) (j : Nat) (hj : j ≤ k.bits) (hk : ∀ n : Int, 0 ≤ n → n < 2 ^ j → k.wrap n = n) (a b : Nat) (ha : a < 2 ^ j) (hb : b < 2 ^ j) : bits .xor k a b = ((a ^^^ b : Nat) : Int) := by
  have hp : 2 ^ j ≤ 2 ^ k.bits := Nat.pow_le_pow_right (by decide) hj
  have ha' : a % 2 ^ k.bits = a := Nat.mod_eq_of_lt (Nat.lt_of_lt_of_le ha hp)
  have hb' : b % 2 ^ k.bits = b := Nat.mod_eq_of_lt (Nat.lt_of_lt_of_le hb hp)
  simp only [bits, BitVec.ofInt_natCast, BitVec.toNat_xor, BitVec.toNat_ofNat, ha', hb']
  exact hk _ (Int.natCast_nonneg _) (by exact_mod_cast Nat.xor_lt_two_pow ha hb)
theorem i64_xor (a b : Nat) (ha : a < 1099511627776) (hb : b < 1099511627776) : bits .xor .i64 (a : Int) (b : Int) = ((a ^^^ b : Nat) : Int) := bits_xor_nat .i64 40 (by decide) wraps_i64 a b ha hb
/-- a without the bits of b. -/
def andn (a b : Nat) : Nat := a ^^^ (a &&& b)
theorem andn_bit (a b i : Nat) : (andn a b).testBit i = (a.testBit i && !b.testBit i) := by
  unfold andn; rw [Nat.testBit_xor, Nat.testBit_and]; cases a.testBit i <;> cases b.testBit i <;> rfl
theorem andn_lt {a b n : Nat} (h : a < 2 ^ n) : andn a b < 2 ^ n := Nat.xor_lt_two_pow h (Nat.lt_of_le_of_lt Nat.and_le_left h)
theorem andn_mask (m a b : Nat) (ha : a < 2 ^ m) : a &&& (2 ^ m - 1 - b % 2 ^ m) = andn a b := by
  apply Nat.eq_of_testBit_eq
  intro i
  rw [andn_bit, Nat.testBit_and]
  have hlt : b % 2 ^ m < 2 ^ m := Nat.mod_lt _ (Nat.two_pow_pos m)
  by_cases hi : i < m
  · rw [show 2 ^ m - 1 - b % 2 ^ m = 2 ^ m - (b % 2 ^ m + 1) from by omega, Nat.testBit_two_pow_sub_succ hlt]
    simp [hi, Nat.testBit_mod_two_pow]
  · have : a.testBit i = false := Nat.testBit_lt_two_pow (Nat.lt_of_lt_of_le ha (Nat.pow_le_pow_right (by decide) (by omega)))
    simp [this]
theorem bits_andNot_nat (k : IntKind) (j : Nat) (hj : j ≤ k.bits) (hk : ∀ n : Int, 0 ≤ n → n < 2 ^ j → k.wrap n = n) (a b : Nat) (ha : a < 2 ^ j) : bits .andNot k a b = ((andn a b : Nat) : Int) := by
  have hp : 2 ^ j ≤ 2 ^ k.bits := Nat.pow_le_pow_right (by decide) hj
  have ha' : a % 2 ^ k.bits = a := Nat.mod_eq_of_lt (Nat.lt_of_lt_of_le ha hp)
  simp only [bits, BitVec.ofInt_natCast, BitVec.toNat_and, BitVec.toNat_not, BitVec.toNat_ofNat, ha']
  rw [andn_mask _ _ _ (Nat.lt_of_lt_of_le ha hp)]
  exact hk _ (Int.natCast_nonneg _) (by exact_mod_cast andn_lt ha)
theorem i64_andNot (a b : Nat) (ha : a < 1099511627776) : bits .andNot .i64 (a : Int) (b : Int) = ((andn a b : Nat) : Int) := bits_andNot_nat .i64 40 (by decide) wraps_i64 a b ha
/-- The numbers of a set, ascending. -/
def memN (x : Nat) : List Nat := (List.range 40).filter fun i => x.testBit i
def mem (x : Nat) : List Int := (memN x).map fun (i : Nat) => (i : Int)
def memK (x k : Nat) : List Int := ((List.range k).filter fun i => x.testBit i).map fun (i : Nat) => (i : Int)
theorem mem_eq (x : Nat) : mem x = memK x 40 := rfl
/-- A set shifted right, as a walk spells it. -/
theorem shr_at (x k : Nat) : ∃ y : Nat, Hid (y = x >>> k) ∧ (x : Int) / 2 ^ k = (y : Int) := by
  refine ⟨x >>> k, rfl, ?_⟩
  rw [Nat.shiftRight_eq_div_pow]
  simp
theorem and1 {y : Nat} (hy : y < 1099511627776) : bits .and .i64 (y : Int) 1 = ((y % 2 : Nat) : Int) := by
  have := i64_and y 1 hy (by omega)
  rw [Nat.and_one_is_mod] at this
  exact this
theorem bit_shr (x k : Nat) : (x >>> k) % 2 = if x.testBit k then 1 else 0 := by
  rw [Nat.testBit_eq_decide_div_mod_eq, Nat.shiftRight_eq_div_pow]
  by_cases h : x / 2 ^ k % 2 = 1
  · simp [h]
  · simp [h]; omega
theorem memK_yes {x k : Nat} (h : x.testBit k = true) : memK x (k + 1) = memK x k ++ [(k : Int)] := by simp [memK, List.range_succ, List.filter_append, h]
theorem memK_no {x k : Nat} (h : x.testBit k = false) : memK x (k + 1) = memK x k := by simp [memK, List.range_succ, List.filter_append, h]
theorem memK_len (x k : Nat) : (memK x k).length ≤ k := by
  unfold memK
  rw [List.length_map]
  exact Nat.le_trans (List.length_filter_le _ _) (by simp)
theorem memK_end {x k : Nat} (h : x >>> k = 0) : ∀ j, memK x (k + j) = memK x k
  | 0 => rfl
  | j + 1 => by
    rw [← Nat.add_assoc, memK_no, memK_end h j]
    rw [Nat.shiftRight_eq_div_pow] at h
    have hlt : x < 2 ^ k := by
      rcases Nat.lt_or_ge x (2 ^ k) with h' | h'
      · exact h'
      · have := Nat.div_pos h' (Nat.two_pow_pos k); omega
    exact Nat.testBit_lt_two_pow (Nat.lt_of_lt_of_le hlt (Nat.pow_le_pow_right (by decide) (by omega)))
theorem ints_snoc (l : List Int) (x : Int) : ints (l ++ [x]) = ints l ++ [.int .i64 x] := by simp [ints]
end Go.KD

namespace Go.Proofs.Ytcjcgcgcloanpaa
open Go.RowKit Go.KD
attribute [local go_sem] later_cell later_frozen
set_option maxRecDepth 100000 in
set_option maxHeartbeats 1000000 in
theorem members_c (x : Nat) (hx : x < 1073741824) (w : World) : Calls Try.prog 77 #[.int .i64 x] w fun e w' =>
    ∃ v, e = .returned v ∧ w'.ownsRow w.heap.size 3 1 v (mem x).length (ints (mem x)) ∧ Below w.heap.size w w' := by
  have HX := Lib.hid hx; clear hx
  obtain ⟨i0, hi, hz0, hz1, hz2⟩ := info_parts infoI
  go_enter Try.func77, Try.ntmps77
  go_wp2
  go_loopw [3, 4] (fun v c wr => ∃ k : Nat, k ≤ 40 ∧ c = .int .i64 k ∧ Below w.heap.size w wr ∧ Hid (wr.ownsRow w.heap.size 3 1 v (memK x k).length (ints (memK x k)))) (fun _ c _ => 40 - (intOf c).toNat)
  case atStart => exact ⟨0, by omega, rfl, (Below.refl _ _).alloc (Nat.le_refl _) _, World.ownsRow_lit _ _ _ (Nat.le_refl _) (by unfold maxLen; omega) (by rfl)⟩
  case round =>
    obtain ⟨k, hk, rfl, hb, HO⟩ := hrel
    obtain ⟨y, HY, ey⟩ := shr_at x k
    have hy : y < 1099511627776 := by
      have := HY.out; have := HX.out; rw [Nat.shiftRight_eq_div_pow] at *; have := Nat.div_le_self x (2 ^ k); omega
    have HA := Lib.hid (and1 hy)
    have HB := bit_shr x k
    rw [← HY.out] at HB
    have HBB := Lib.hid HB
    clear hy HB
    have hk0 : (0 : Int) ≤ (k : Int) := by omega
    have hk1 : (k : Int) ≤ 63 := by omega
    rcases Nat.eq_zero_or_pos y with h0 | h0
    · have h0' : ¬ ((0 : Int) < (y : Int)) := by omega
      have H0 := Lib.hid h0; clear h0
      go_wp2
      go_ret
      refine ⟨_, rfl, ?_, hb⟩
      have := HO.out
      rw [mem_eq]
      rwa [show (40 : Nat) = k + (40 - k) from by omega, memK_end (by rw [← HY.out]; exact H0.out)]
    · have hlt : k < 30 := by
        rcases Nat.lt_or_ge k 30 with h | h
        · exact h
        · have := HY.out; have hx := HX.out
          rw [Nat.shiftRight_eq_div_pow, Nat.div_eq_of_lt (Nat.lt_of_lt_of_le hx (Nat.le_trans (by decide : 1073741824 ≤ 2 ^ 30) (Nat.pow_le_pow_right (by decide) h)))] at this
          omega
      cases hbit : x.testBit k
      · have ea : bits .and .i64 (y : Int) 1 = 0 := by rw [HA.out, HBB.out, hbit]; rfl
        have HBI := Lib.hid hbit; clear hbit
        go_wp2
        go_roundw
        case rel => exact ⟨k + 1, by omega, by go_num, hb, by rw [memK_no HBI.out]; exact HO⟩
        case measure => simp [intOf]; omega
      · have ea : bits .and .i64 (y : Int) 1 = 1 := by rw [HA.out, HBB.out, hbit]; rfl
        have HBI := Lib.hid hbit; clear hbit
        have hz := hb.size
        go_wp2_with (at_builtin; refine wpList_append_own _ rfl _ _ 25 rfl w.heap.size 3 i0 (.int .i64 0) 1 8 Try.underlying25 hi hz0 hz1 hz2 rfl (by decide) _ _ _ rfl (HO.out.alloc _) ⟨wr.heap.size, 0, none⟩ 1 1 [.int .i64 k] rfl rfl ?_ ?_ ?_ ?_ ?_ ?_; (exact cell_one_new _ _ _); (simp [Value.oneCell']); (have := memK_len x k; unfold maxLen; omega); (have := memK_len x k; omega); (simp; omega); intro v' w1 hown' hgrow _)
        go_roundw
        case rel => exact ⟨k + 1, by omega, by go_num, (hb.alloc hz _).grown hgrow (by simp; omega) (fun g hg => own_block_lo HO.out hg), by rw [memK_yes HBI.out, ints_snoc, List.length_append]; exact hown'⟩
        case measure => simp [intOf]; omega
end Go.Proofs.Ytcjcgcgcloanpaa

namespace Go.KD
def eqP (x : Int) : Int → Bool := fun y => decide (y = x)
def hasI (l : List Int) (x : Int) : Bool := anyP (eqP x) l
theorem hasI_iff {l : List Int} {x : Int} : hasI l x = true ↔ x ∈ l := by simp [hasI, anyP, eqP]
theorem hasI_at {l : List Int} {x : Int} {k : Nat} (hk : k < l.length) (h : l[k]! = x) : hasI l x = true := by
  rw [hasI_iff, ← h, getElem!_pos l k hk]; exact List.getElem_mem hk
theorem hasI_none {l : List Int} {x : Int} (h : ∀ j, j < l.length → l[j]! ≠ x) : hasI l x = false := by
  rw [Bool.eq_false_iff, ne_eq, hasI_iff]
  intro hm
  obtain ⟨j, hj, rfl⟩ := List.mem_iff_getElem.1 hm
  exact h j hj (getElem!_pos l j hj)
end Go.KD
namespace Go.Proofs.Ytcjcgcgcloanpaa
open Go.RowKit Go.KD
attribute [local go_sem] later_cell later_frozen
theorem l1Has_c (a : Option Addr) (cap n : Nat) (l : List Int) (x : Int) (w : World) (hn : n = l.length) (hA : IC w a l) (hl : n ≤ 1048576) : Calls Try.prog 105 #[.slice a n cap, .int .i64 x] w fun e w' => e = .returned (.bool (hasI l x)) ∧ w = w' := by
  have HN := Lib.hid hn; clear hn
  go_enter Try.func105, Try.ntmps105
  go_wp2
  go_loop [5] (fun i => ∃ k : Nat, k ≤ n ∧ i = .int .i64 k ∧ Hid (∀ j, j < k → l[j]! ≠ x)) (fun i => n - (intOf i).toNat)
  case atStart => exact ⟨0, Nat.zero_le _, rfl, fun j hj => by omega⟩
  case round =>
    obtain ⟨k, hk, rfl, HK⟩ := hrel
    by_cases hlt : k < n
    · have hlt' : k < l.length := by rw [← HN.out]; exact hlt
      obtain ⟨b, off, y, rfl, HX, hbs, e0⟩ := hA.at k hlt'
      by_cases h : y = x
      · have g : (y == x) = true := by simpa using h
        have H := Lib.hid h; clear h
        go_wp2
        go_ret
        exact ⟨ret_bool (by rw [hasI_at hlt' (HX.out.trans H.out)]), rfl⟩
      · have g : (y == x) = false := by simpa using h
        go_wp2
        go_round
        case rel => exact ⟨k+1, by omega, by go_num, fun j hj => by
          rcases Nat.lt_or_ge j k with h' | h'
          · exact HK.out j h'
          · obtain rfl : j = k := by omega
            rw [HX.out]; exact h⟩
        case measure => simp [intOf]; omega
    · go_wp2
      go_ret
      exact ⟨ret_bool (by rw [hasI_none (fun j hj => HK.out j (by have := HN.out; omega))]), rfl⟩
theorem index_c (a : Option Addr) (cap n : Nat) (l : List Int) (x : Int) (w : World) (hn : n = l.length) (hA : IC w a l) (hl : n ≤ 1048576) : Calls Try.prog 183 #[.slice a n cap, .int .i64 x] w fun e w' => e = .returned (.int .i64 (idxP (eqP x) l)) ∧ w = w' := by
  have HN := Lib.hid hn; clear hn
  go_enter Try.func183, Try.ntmps183
  go_wp2
  go_loop [5, 8] (fun _ i => ∃ k : Nat, k ≤ n ∧ i = .int .i64 k ∧ Hid (∀ j, j < k → eqP x l[j]! = false)) (fun _ i => n - (intOf i).toNat)
  case atStart => exact ⟨0, Nat.zero_le _, rfl, fun j hj => by omega⟩
  case round =>
    obtain ⟨k, hk, rfl, HK⟩ := hrel
    by_cases hlt : k < n
    · have hlt' : k < l.length := by rw [← HN.out]; exact hlt
      obtain ⟨b, off, y, rfl, HX, hbs, e0⟩ := hA.at k hlt'
      by_cases h : y = x
      · have g : (x == y) = true := by simp [h]
        have H := Lib.hid h; clear h
        go_wp2
        go_ret
        exact ⟨ret_int (by rw [idxP_at hlt' HK.out (by rw [HX.out, H.out]; simp [eqP])]), rfl⟩
      · have g : (x == y) = false := by simp; exact fun e => h e.symm
        go_wp2
        go_round
        case rel => exact ⟨k+1, by omega, by go_num, fun j hj => by
          rcases Nat.lt_or_ge j k with h' | h'
          · exact HK.out j h'
          · obtain rfl : j = k := by omega
            rw [HX.out]; simpa [eqP] using h⟩
        case measure => simp [intOf]; omega
    · go_wp2
      go_ret
      exact ⟨ret_int (by rw [idxP_none (fun j hj => HK.out j (by have := HN.out; omega))]), rfl⟩
theorem contains_c (a : Option Addr) (cap n : Nat) (l : List Int) (x : Int) (w : World) (hn : n = l.length) (hA : IC w a l) (hl : n ≤ 1048576) : Calls Try.prog 147 #[.slice a n cap, .int .i64 x] w fun e w' => e = .returned (.bool (hasI l x)) ∧ w = w' := by
  have HN := Lib.hid hn; clear hn
  go_enter Try.func147, Try.ntmps147
  go_wp2_with (go_at_call 183; refine (index_c _ _ _ l _ _ HN.out hA hl).mono ?_; rintro e w1 ⟨rfl, rfl⟩)
  go_ret
  exact ⟨ret_bool (anyP_idx _ _).symm, rfl⟩
set_option maxHeartbeats 1000000 in
theorem clone_c (a : Option Addr) (cap n : Nat) (l : List Int) (w : World) (hn : n = l.length) (hA : IC w a l) (hl : n ≤ 1048576) : Calls Try.prog 155 #[.slice a n cap] w fun e w' =>
    ∃ v, e = .returned v ∧ w'.ownsRow w.heap.size 3 1 v n (ints l) ∧ Below w.heap.size w w' := by
  obtain ⟨i0, hi, hz0, hz1, hz2⟩ := info_parts infoI
  have HN := Lib.hid hn; clear hn
  have he := fun (w : World) => Lib.run_eql_slice_nil (P := Try.prog) w 25 3 a n cap 0 0 Try.underlying25
  cases a with
  | none =>
    have h0 : l = [] := by
      cases l with
      | nil => rfl
      | cons x l => obtain ⟨b, off, h, _⟩ := hA 0 (by simp); cases h
    have H0 := Lib.hid h0; clear h0
    go_enter Try.func155, Try.ntmps155
    go_wp2
    go_ret
    refine ⟨_, rfl, ⟨?_, .inl ⟨rfl, ?_⟩⟩, Below.refl _ _⟩
    · rw [H0.out, HN.out, H0.out]; rfl
    · rw [HN.out, H0.out]; rfl
  | some ad =>
    have hnews : Hid (∀ j u, (ints l)[j]? = some u → w.cell? (ad.add j) = some u) := by
      intro j u hu
      have hj : j < l.length := by
        rcases Nat.lt_or_ge j l.length with h | h
        · exact h
        · rw [List.getElem?_eq_none (by simpa using h)] at hu; cases hu
      obtain ⟨b, off, hb, hbs, hc⟩ := hA j hj
      cases hb
      rw [add_at rfl, hc, ← hu, ints, List.getElem?_map, List.getElem?_eq_getElem hj, getElem!_pos l j hj]
      rfl
    have hlt : Hid (∀ j u, (ints l)[j]? = some u → ad.block < w.heap.size) := fun j u hu => World.block_lt_of_cell? w (ad.add j) (hnews.out j u hu) |> fun h => by unfold Addr.add at h; split at h <;> exact h
    go_enter Try.func155, Try.ntmps155
    go_wp2_with (at_builtin; refine wpList_append_own _ rfl _ _ 25 rfl w.heap.size 3 i0 (.int .i64 0) 1 8 Try.underlying25 hi hz0 hz1 hz2 rfl (by decide) _ _ _ rfl (World.ownsRow_lit w #[] 0 (Nat.le_refl _) (by unfold maxLen; omega) rfl) ad n cap (ints l) rfl ?_ ?_ ?_ ?_ ?_ ?_ ?_; (rw [length_ints, HN.out]; omega); (intro j u hu; rw [World.cell?_alloc_lt _ _ _ (by have := hlt.out j u hu; unfold Addr.add; split <;> exact this)]; exact hnews.out j u hu); (intro u hu; simp only [ints, List.mem_map] at hu; obtain ⟨x, _, rfl⟩ := hu; rfl); (unfold maxLen; omega); omega; (simp); intro v' w1 hown' hgrow _)
    go_ret
    refine ⟨_, rfl, by simpa using hown', ((Below.refl _ _).alloc (Nat.le_refl _) _).grown hgrow (by simp) (fun g hg => by cases hg; exact Nat.le_refl _)⟩
end Go.Proofs.Ytcjcgcgcloanpaa

namespace Go.KD
open Go.RowKit Go.ChangeShapes Go.WideShapes Go.ChangeAt Go.Joins Go.Deep
/-- Bytes that read. -/
def BC (w : World) (a : Option Addr) (n : Nat) : Prop :=
  ∀ k, k < n → ∃ b off, ∃ x : Nat, a = some ⟨b, off, none⟩ ∧ b < w.heap.size ∧ x < 256 ∧ w.cell? ⟨b, off + k, none⟩ = some (.int .u8 x)
theorem BC.later {w w' : World} {a : Option Addr} {n : Nat} (h : BC w a n) (hb : Below w.heap.size w w') : BC w' a n := by
  intro k hk
  obtain ⟨b, off, x, ha, hbs, hx, c0⟩ := h k hk
  obtain ⟨hc, hf⟩ := bcell hb
  exact ⟨b, off, x, ha, by have := hb.size; omega, hx, (hc _ _ hbs).trans c0⟩
theorem open_bc {H : Type} {enc : TypeId × Value → H} {P : Program} {w : World} {base : Nat} {held : Bool} {t e : TypeId} {fuel : Nat} {v : Value} {x : DataW H × List MemPlace} (ht : P.underlying t = some (.slice e)) (he : P.underlying e = some (.int .u8)) (hc : P.cellsOf e = 1)
    (h : DataW.trod enc P w base (fun _ => true) held fuel t [v] = some x) :
    ∃ a cap, ∃ n : Nat, v = .slice a n cap ∧ n ≤ maxLen ∧ BC w a n := by
  rcases open_ints ht he hc h with ⟨hcs, _⟩ | ⟨a, len, cap, zs, hcs, _, hl, hm, hz, _, hcell, hwf⟩
  · simp only [List.cons.injEq, and_true] at hcs
    exact ⟨none, 0, 0, hcs, by unfold maxLen; simp, fun k hk => absurd hk (Nat.not_lt_zero k)⟩
  · simp only [List.cons.injEq, and_true] at hcs
    simp only [if_true] at hz
    refine ⟨some a, cap, len, hcs, by omega, fun k hk => ?_⟩
    have hk' : k < zs.length := by omega
    have c := hcell k hk'
    have hsp : (a.add k).spot = none := World.cell?_spot c
    have hbl := World.block_lt_of_cell? w _ c
    have ha0 := World.cell?_spot (hcell 0 (by omega))
    have ha : a.spot = none := by unfold Addr.add at ha0; rw [if_pos rfl] at ha0; exact ha0
    obtain ⟨b, off, sp⟩ := a
    simp only at ha; subst ha
    rw [add_at (a := ⟨b, off, none⟩) rfl] at c hbl
    have hw := hwf (zs[k]) (List.getElem_mem hk')
    have hw1 : IntKind.u8.min ≤ zs[k] ∧ zs[k] ≤ IntKind.u8.max := by simpa [Lit.wf] using hw
    have hw2 : 0 ≤ zs[k] ∧ zs[k] ≤ 255 := ⟨Int.le_trans (by decide) hw1.1, Int.le_trans hw1.2 (by decide)⟩
    refine ⟨b, off, zs[k].toNat, rfl, hbl, by omega, ?_⟩
    rw [c, List.getD_eq_getElem?_getD, List.getElem?_eq_getElem hk', Option.getD_some, Int.toNat_of_nonneg hw2.1]
/-- A cursor in block c, before place n. -/
structure Cu (c n : Nat) (w : World) : Prop where
  ex : ∃ a, ∃ ln cp p : Nat, ∃ s : Int, w.cell? ⟨c, 0, none⟩ = some (.slice a ln cp) ∧ w.cell? ⟨c, 1, none⟩ = some (.int .i64 p) ∧ w.cell? ⟨c, 2, none⟩ = some (.int .u64 s) ∧ p ≤ n ∧ ln ≤ 65536 ∧
    ∀ k, k < ln → ∃ b off, ∃ x : Nat, a = some ⟨b, off, none⟩ ∧ b < c ∧ x < 256 ∧ w.cell? ⟨b, off + k, none⟩ = some (.int .u8 x)
  fz : ∀ o, o < 3 → w.frozen? ⟨c, o, none⟩ = false
  lt : c < w.heap.size
theorem Cu.mono {c n n' : Nat} {w : World} (h : Cu c n w) (hn : n ≤ n') : Cu c n' w := by
  obtain ⟨⟨a, ln, cp, p, s, h0, h1, h2, h3, h4⟩, hf, hl⟩ := h
  exact ⟨⟨a, ln, cp, p, s, h0, h1, h2, by omega, h4⟩, hf, hl⟩
theorem Cu.same {c n : Nat} {w w' : World} (h : Cu c n w) (hs : w.heap.size ≤ w'.heap.size) (hb : ∀ k, k ≤ c → w'.heap[k]? = w.heap[k]?) : Cu c n w' := by
  obtain ⟨⟨a, ln, cp, p, s, h0, h1, h2, h3, h4, h5⟩, hf, hl⟩ := h
  have hc : ∀ b o, b ≤ c → w'.cell? ⟨b, o, none⟩ = w.cell? ⟨b, o, none⟩ := fun b o hbc => World.cell?_of_block (hb b hbc)
  refine ⟨⟨a, ln, cp, p, s, (hc _ _ (Nat.le_refl _)).trans h0, (hc _ _ (Nat.le_refl _)).trans h1, (hc _ _ (Nat.le_refl _)).trans h2, h3, h4, fun k hk => ?_⟩, fun o ho => ?_, by omega⟩
  · obtain ⟨b, off, x, e1, e2, e3, e4⟩ := h5 k hk
    exact ⟨b, off, x, e1, e2, e3, (hc _ _ (by omega)).trans e4⟩
  · have := hf o ho
    unfold World.frozen? at *
    simp only at *
    rw [hb c (Nat.le_refl _)]; exact this
theorem Cu.later {c n B : Nat} {w w' : World} (h : Cu c n w) (hb : Below B w w') (hc : c < B) : Cu c n w' := h.same hb.size (fun k hk => hb.block k (by omega))
theorem Cu.chg {c n lo hi : Nat} {w w' : World} (h : Cu c n w) (hb : Chg lo hi w w') (hc : c < lo) : Cu c n w' := h.same hb.size (fun k hk => hb.block k (by have := h.lt; omega) (.inl (by omega)))
theorem Chg.refl (lo hi : Nat) (w : World) : Chg lo hi w w := ⟨rfl, rfl, rfl, Nat.le_refl _, fun _ _ _ => rfl⟩
theorem Chg.then_below {lo hi B : Nat} {w w1 w2 : World} (h : Chg lo hi w w1) (k : Below B w1 w2) (hB : w1.heap.size ≤ B) : Chg lo hi w w2 := h.trans (Chg.of_below (k.mono hB))
theorem Chg.alloc {lo hi : Nat} {w w1 : World} (h : Chg lo hi w w1) (o : Obj) : Chg lo hi w (w1.alloc o) := h.then_below ((Below.refl _ _).alloc (Nat.le_refl _) o) (Nat.le_refl _)
theorem Chg.drew {lo hi : Nat} {w w1 : World} (h : Chg lo hi w w1) : Chg lo hi w w1.drew := h.then_below (Below.refl _ _).drew (Nat.le_refl _)
theorem Chg.drewN {lo hi : Nat} {w w1 : World} (h : Chg lo hi w w1) (n : Nat) : Chg lo hi w (w1.drewN n) := h.then_below (below_drewN (Below.refl _ _) n) (Nat.le_refl _)
theorem Chg.setCell {lo hi : Nat} {w w1 : World} (h : Chg lo hi w w1) {a : Addr} (h1 : lo ≤ a.block) (h2 : a.block < hi) (u : Value) : Chg lo hi w (w1.setCell a u) := h.trans (Chg.of_grown (grown_setCell w1 a u) (fun g hg => by cases hg; exact ⟨h1, h2⟩))
theorem Chg.mono {lo hi lo' hi' : Nat} {w w' : World} (h : Chg lo hi w w') (h1 : lo' ≤ lo) (h2 : hi ≤ hi') : Chg lo' hi' w w' := ⟨h.os, h.tape, h.output, h.size, fun k hk hd => h.block k hk (by omega)⟩
theorem Chg.new {lo hi lo' hi' : Nat} {w w' w2 : World} (h : Chg lo hi w w') (h1 : w.heap.size ≤ lo) : Below w.heap.size w w' := h.below h1 (Nat.le_refl _)
/-- A new cursor. -/
theorem Cu.new {w w' : World} {c n : Nat} {a : Option Addr} {ln cp p : Nat} {s : Int} (hc : Cu c n w) (hch : Chg c (c + 1) w w') (h0 : w'.cell? ⟨c, 0, none⟩ = some (.slice a ln cp)) (h1 : w'.cell? ⟨c, 1, none⟩ = some (.int .i64 p)) (h2 : w'.cell? ⟨c, 2, none⟩ = some (.int .u64 s))
    (h3 : p ≤ n + 1) (h4 : ln ≤ 65536) (h5 : ∀ k, k < ln → ∃ b off, ∃ x : Nat, a = some ⟨b, off, none⟩ ∧ b < c ∧ x < 256 ∧ w.cell? ⟨b, off + k, none⟩ = some (.int .u8 x)) (hf : ∀ o, o < 3 → w'.frozen? ⟨c, o, none⟩ = false) : Cu c (n + 1) w' := by
  refine ⟨⟨a, ln, cp, p, s, h0, h1, h2, h3, h4, fun k hk => ?_⟩, hf, Nat.lt_of_lt_of_le hc.lt hch.size⟩
  obtain ⟨b, off, x, e1, e2, e3, e4⟩ := h5 k hk
  exact ⟨b, off, x, e1, e2, e3, by rw [hch.cell (p := ⟨b, off + k, none⟩) (Nat.lt_trans e2 hc.lt) (.inl e2)]; exact e4⟩
/-- What a draw of a number gives. -/
def NatP (c n k : Nat) (w : World) (e : Ending) (w' : World) : Prop := ∃ r : Nat, e = .returned (.int .i64 r) ∧ r < k ∧ Chg c (c + 1) w w' ∧ Cu c n w'
def BoolP (c n : Nat) (w : World) (e : Ending) (w' : World) : Prop := ∃ b : Bool, e = .returned (.bool b) ∧ Chg c (c + 1) w w' ∧ Cu c n w'
def IntP (c n : Nat) (l : List Int) (w : World) (e : Ending) (w' : World) : Prop := ∃ x : Int, e = .returned (.int .i64 x) ∧ x ∈ l ∧ Chg c (c + 1) w w' ∧ Cu c n w'
theorem Cu.step {c n ln cp p k j : Nat} {a : Option Addr} {s : Int} {w : World} (hc : Cu c n w) (h0 : w.cell? ⟨c, 0, none⟩ = some (.slice a ln cp)) (f0 : w.cell? ⟨c, 1, none⟩ = some (.int .i64 p)) (f1 : ∃ u : Int, w.cell? ⟨c, 2, none⟩ = some (.int .u64 u)) (h3 : p ≤ n) (h4 : ln ≤ 65536)
    (h5 : ∀ k, k < ln → ∃ b off, ∃ x : Nat, a = some ⟨b, off, none⟩ ∧ b < c ∧ x < 256 ∧ w.cell? ⟨b, off + k, none⟩ = some (.int .u8 x)) :
    Chg c (c + 1) w ((((w.drewN k).setCell ⟨c, 1, none⟩ (.int .i64 ((p : Int) + 1))).setCell ⟨c, 2, none⟩ (.int .u64 s)).drewN j) ∧ Cu c (n + 1) ((((w.drewN k).setCell ⟨c, 1, none⟩ (.int .i64 ((p : Int) + 1))).setCell ⟨c, 2, none⟩ (.int .u64 s)).drewN j) := by
  obtain ⟨u, f1⟩ := f1
  have hf := hc.fz
  have hch : Chg c (c + 1) w ((((w.drewN k).setCell ⟨c, 1, none⟩ (.int .i64 ((p : Int) + 1))).setCell ⟨c, 2, none⟩ (.int .u64 s)).drewN j) := by
    repeat (first | exact Chg.refl _ _ _ | apply Chg.drewN | apply Chg.drew | (refine Chg.setCell ?_ (by simp) (by simp) _))
  refine ⟨hch, Cu.new (p := p + 1) (a := a) (ln := ln) (cp := cp) (s := s) hc hch ?_ ?_ ?_ (by omega) h4 h5 fun o ho => ?_⟩
  · simp [go_sem, h0]
  · simp [go_sem, f0]
  · simp [go_sem, f1]
  · have := hf o ho
    simp [go_sem, this]
theorem low8 (t : Int) : ∃ r : Nat, r < 256 ∧ wrap64 (bits .and .u64 (IntKind.u64.wrap t / 1099511627776) 255) = (r : Int) := by
  have h0 := IntKind.wrap_u64 t
  have h1 : 0 ≤ IntKind.u64.wrap t / 1099511627776 ∧ IntKind.u64.wrap t / 1099511627776 < 18446744073709551616 := by rw [h0]; omega
  have h2 := bits_mask .u64 64 (by decide) Go.wraps_u64 8 (by decide) _ h1.1 h1.2
  have h2 : bits .and .u64 (IntKind.u64.wrap t / 1099511627776) 255 = (IntKind.u64.wrap t / 1099511627776) % 256 := h2
  refine ⟨((IntKind.u64.wrap t / 1099511627776) % 256).toNat, by omega, ?_⟩
  rw [h2]
  unfold wrap64
  omega
end Go.KD
namespace Go.Proofs.Ytcjcgcgcloanpaa
open Go.RowKit Go.KD
attribute [local go_sem] later_cell later_frozen
set_option maxRecDepth 100000 in
set_option maxHeartbeats 4000000 in
theorem next_c (c n : Nat) (hn : n ≤ 1000000) (w : World) (h : Cu c n w) : Calls Try.prog 182 #[.pointer (some ⟨c, 0, none⟩)] w (NatP c (n + 1) 256 w) := by
  have HC := Lib.hid h
  obtain ⟨⟨a, ln, cp, p, s, h0, h1, h2, h3, h4, h5⟩, hf, hl⟩ := h
  have f1 := hf 1 (by omega)
  have f2 := hf 2 (by omega)
  have H5 := Lib.hid h5
  have HF := Lib.hid hf
  clear h5 hf
  by_cases hlt : p < ln
  · obtain ⟨b, off, x, rfl, hb, hx, e0⟩ := H5.out p hlt
    have hp0 : (0 : Int) ≤ (p : Int) := by omega
    have hpI : (p : Int) < (ln : Int) := by omega
    go_enter Try.func182, Try.ntmps182
    go_wp2
    go_quiet (fail)
    go_wp2
    go_quiet (fail)
    go_wp2
    go_quiet (fail)
    go_wp2
    go_ret
    exact ⟨x, rfl, hx, HC.out.step h0 h1 ⟨s, h2⟩ h3 h4 H5.out⟩
  · have hpI : ¬ ((p : Int) < (ln : Int)) := by omega
    go_enter Try.func182, Try.ntmps182
    go_wp2
    go_quiet (fail)
    go_wp2
    go_quiet (fail)
    go_wp2
    go_ret
    obtain ⟨r, hr, he⟩ := low8 (IntKind.u64.wrap (IntKind.u64.wrap (s * 6364136223846793005)) + 462197)
    exact ⟨r, ret_int he, hr, HC.out.step h0 h1 ⟨s, h2⟩ h3 h4 H5.out⟩
set_option maxHeartbeats 4000000 in
theorem pick_c (c n k : Nat) (hk0 : 0 < k) (hk : k ≤ 10000) (hn : n ≤ 900000) (w : World) (h : Cu c n w) : Calls Try.prog 145 #[.pointer (some ⟨c, 0, none⟩), .int .i64 k] w (NatP c (n + 2) k w) := by
  have HC := Lib.hid h
  clear h
  by_cases h1 : k ≤ 1
  · obtain rfl : k = 1 := by omega
    go_enter Try.func145, Try.ntmps145
    go_wp2
    go_ret
    exact ⟨0, rfl, by omega, Chg.refl _ _ _, HC.out.mono (by omega)⟩
  · have h1I : ¬ ((k : Int) ≤ 1) := by omega
    by_cases h2 : k ≤ 200
    · have h2I : ¬ ((200 : Int) < (k : Int)) := by omega
      go_enter Try.func145, Try.ntmps145
      go_wp2_with (go_at_call 182; refine (next_c c n (by omega) _ HC.out).mono ?_; rintro e w1 ⟨r, rfl, hr, hc1, hu1⟩)
      go_ret
      exact ⟨r % k, rfl, Nat.mod_lt _ hk0, hc1, hu1.mono (by omega)⟩
    · have h2I : (200 : Int) < (k : Int) := by omega
      go_enter Try.func145, Try.ntmps145
      go_wp2_with fail
      refine (next_c c n (by omega) _ HC.out).mono ?_
      rintro e w1 ⟨r, rfl, hr, hc1, hu1⟩
      go_wp2_with fail
      refine (next_c c (n + 1) (by omega) _ hu1).mono ?_
      rintro e w2 ⟨r2, rfl, hr2, hc2, hu2⟩
      go_wp2_with fail
      go_ret
      exact ⟨(r * 256 + r2) % k, ret_int (by simp), Nat.mod_lt _ hk0, hc1.trans hc2, hu2⟩
theorem one_c (c n k : Nat) (hk0 : 0 < k) (hk : k ≤ 10000) (hn : n ≤ 900000) (w : World) (h : Cu c n w) : Calls Try.prog 136 #[.pointer (some ⟨c, 0, none⟩), .int .i64 k] w (BoolP c (n + 2) w) := by
  have HC := Lib.hid h
  clear h
  go_enter Try.func136, Try.ntmps136
  go_wp2_with (go_at_call 145; refine (pick_c c n k hk0 hk hn _ HC.out).mono ?_; rintro e w1 ⟨r, rfl, hr, hc1, hu1⟩)
  go_ret
  exact ⟨_, rfl, hc1, hu1⟩
theorem among_c (c n k cap : Nat) (a : Option Addr) (l : List Int) (hk : k = l.length) (hk0 : 0 < k) (hk1 : k ≤ 10000) (hn : n ≤ 900000) (w : World) (h : Cu c n w) (hA : ∀ w', Chg c (c + 1) w w' → IC w' a l) : Calls Try.prog 144 #[.pointer (some ⟨c, 0, none⟩), .slice a k cap] w (IntP c (n + 2) l w) := by
  have HC := Lib.hid h
  have HK := Lib.hid hk
  have HA := Lib.hid hA
  clear h hA hk
  go_enter Try.func144, Try.ntmps144
  go_wp2_with fail
  refine (pick_c c n k hk0 hk1 hn _ HC.out).mono ?_
  rintro e w1 ⟨r, rfl, hr, hc1, hu1⟩
  have hr' : r < l.length := by rw [← HK.out]; exact hr
  obtain ⟨b, off, x, rfl, HX, hbs, e0⟩ := (HA.out w1 hc1).at r hr'
  have hrI : (r : Int) < (k : Int) := by omega
  go_wp2_with fail
  go_ret
  exact ⟨x, rfl, by rw [← HX.out, getElem!_pos l r hr']; exact List.getElem_mem hr', hc1, hu1⟩
end Go.Proofs.Ytcjcgcgcloanpaa
