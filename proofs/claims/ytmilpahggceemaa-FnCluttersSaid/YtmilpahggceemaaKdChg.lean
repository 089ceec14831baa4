/- Worlds that differ in some blocks alone; what the marks of mazes and works do. -/
import Derived.Test.YtmilpahggceemaaKdLaws2
set_option linter.unusedVariables false
set_option linter.unusedSimpArgs false
namespace Go.KD
open Go.RowKit
/-- Of the blocks that were there only those in [lo, hi) may have changed. -/
structure Chg (lo hi : Nat) (w w' : World) : Prop where
  os : w'.os = w.os
  tape : w'.tape = w.tape
  output : w'.output = w.output
  size : w.heap.size ≤ w'.heap.size
  block : ∀ k, k < w.heap.size → (k < lo ∨ hi ≤ k) → w'.heap[k]? = w.heap[k]?
theorem Chg.trans {lo hi : Nat} {a b c : World} (h : Chg lo hi a b) (k : Chg lo hi b c) : Chg lo hi a c :=
  ⟨k.os.trans h.os, k.tape.trans h.tape, k.output.trans h.output, Nat.le_trans h.size k.size, fun i hi hk => (k.block i (Nat.lt_of_lt_of_le hi h.size) hk).trans (h.block i hi hk)⟩
theorem Chg.of_below {lo hi : Nat} {w w' : World} (h : Below w.heap.size w w') : Chg lo hi w w' := ⟨h.os, h.tape, h.output, h.size, fun k hk _ => h.block k hk⟩
theorem Chg.of_grown {lo hi : Nat} {w w' : World} {row : Option Nat} (h : w.grownBy w' row) (hr : ∀ g, row = some g → lo ≤ g ∧ g < hi) : Chg lo hi w w' :=
  ⟨h.os, h.tape, h.output, h.size, fun k hk hd => h.block k hk (fun e => by have := hr k e.symm; omega)⟩
theorem Chg.below {lo hi B : Nat} {w w' : World} (h : Chg lo hi w w') (hB : B ≤ lo) (hs : B ≤ w.heap.size) : Below B w w' := ⟨h.os, h.tape, h.output, h.size, fun k hk => h.block k (by omega) (.inl (by omega))⟩
theorem Chg.cell {lo hi : Nat} {w w' : World} (h : Chg lo hi w w') {p : Addr} (hp : p.block < w.heap.size) (hd : p.block < lo ∨ hi ≤ p.block) : w'.cell? p = w.cell? p := World.cell?_of_block (w := w) (h.block p.block hp hd)
theorem Own.chg {lo hi lo' hi' size n : Nat} {w w' : World} {e : TypeId} {v : Value} {xs : List Value} (h : Own lo hi w e size v n xs) (hc : Chg lo' hi' w w') (hd : hi ≤ lo' ∨ hi' ≤ lo) : Own lo hi w' e size v n xs := by
  obtain ⟨⟨hl, h1⟩, ht⟩ := h
  refine ⟨⟨hl, ?_⟩, ht⟩
  rcases h1 with h1 | ⟨g, cap, cur, hv, hg, hh, r⟩
  · exact .inl h1
  · refine .inr ⟨g, cap, cur, hv, hg, ?_, r⟩
    have := ht g (by rw [hv]; rfl)
    rw [hc.block g ?_ (by omega)]; exact hh
    rcases Nat.lt_or_ge g w.heap.size with h | h
    · exact h
    · rw [Array.getElem?_eq_none h] at hh; cases hh
theorem Own.grown_ne {lo hi size n : Nat} {w w' : World} {row : Option Nat} {e : TypeId} {v : Value} {xs : List Value} (h : Own lo hi w e size v n xs) (hb : w.grownBy w' row) (hr : ∀ g, v.ownBlock = some g → row ≠ some g) : Own lo hi w' e size v n xs := by
  obtain ⟨⟨hl, h1⟩, ht⟩ := h
  refine ⟨⟨hl, ?_⟩, ht⟩
  rcases h1 with h1 | ⟨g, cap, cur, hv, hg, hh, r⟩
  · exact .inl h1
  · refine .inr ⟨g, cap, cur, hv, hg, ?_, r⟩
    rw [hb.block g ?_ (fun e => hr g (by rw [hv]; rfl) e.symm)]; exact hh
    rcases Nat.lt_or_ge g w.heap.size with h | h
    · exact h
    · rw [Array.getElem?_eq_none h] at hh; cases hh
theorem Own.blocks {lo hi size n : Nat} {w : World} {e : TypeId} {v : Value} {xs : List Value} (h : Own lo hi w e size v n xs) : ∀ g, v.ownBlock = some g → lo ≤ g ∧ g < hi := fun g hg => ⟨own_block_lo h.row hg, h.top g hg⟩
theorem Own.slice {lo hi size n : Nat} {w : World} {e : TypeId} {v : Value} {xs : List Value} (h : Own lo hi w e size v n xs) : ∃ a cap, v = .slice a n cap := own_slice h.row
theorem ic_of' {lo hi n cap : Nat} {w : World} {e : TypeId} {a : Option Addr} {l : List Int} (h : Own lo hi w e 1 (.slice a n cap) n (ints l)) (hn : n = l.length) : IC w a l := by
  subst hn
  obtain ⟨a', c', hv, _, hi⟩ := h.ic
  cases hv; exact hi
theorem ic_of {lo hi cap : Nat} {w : World} {e : TypeId} {a : Option Addr} {l : List Int} (h : Own lo hi w e 1 (.slice a l.length cap) l.length (ints l)) : IC w a l := ic_of' h rfl
theorem ic_marks {lo hi n cap : Nat} {k : Int} {w : World} {e : TypeId} {a : Option Addr} (h : Own lo hi w e 1 (.slice a n cap) n (ints (marks n k))) : IC w a (marks n k) := ic_of' h (length_marks n k).symm
end Go.KD
namespace Go.Proofs.Ytmilpahggceemaa
open Go.RowKit Go.KD
attribute [local go_sem] later_cell later_frozen
