/- Contract of the reference's l2Reach. -/
import Derived.Test.YtmilpahggceemaaKdReach2
import Derived.Test.YtmilpahggceemaaKdPut2
import Derived.Deep.AppendLies
set_option linter.unusedVariables false
set_option linter.unusedSimpArgs false
namespace Go.KD
open Go.RowKit
theorem mem_two : ∀ x : Nat, x < 12 → mem (2 ^ x) = [(x : Int)] := by decide
/-- A sorted list of nodes and a queue of nodes, apart. -/
def RM (base : Nat) (ty : TypeId) (w : World) (u l : Value) (O : Nat) (T : List Int) : Prop :=
  ∃ bo oo co g cg, u = .slice (some ⟨bo, oo, none⟩) (mem O).length co ∧ l = .slice (some ⟨g, 0, none⟩) T.length cg ∧ IC w (some ⟨bo, oo, none⟩) (mem O) ∧ (mem O).length ≤ co ∧ co ≤ maxLen ∧ bo < w.heap.size ∧
    w.ownsRow base ty 1 (.slice (some ⟨g, 0, none⟩) T.length cg) T.length (ints T) ∧ g ≠ bo ∧ base ≤ bo
theorem RM.later {base : Nat} {ty : TypeId} {w w' : World} {u l : Value} {O : Nat} {T : List Int} (h : RM base ty w u l O T) (hb : Below w.heap.size w w') : RM base ty w' u l O T := by
  obtain ⟨bo, oo, co, g, cg, h1, h2, h3, h4, h5, h6, h7, h8, h9⟩ := h
  exact ⟨bo, oo, co, g, cg, h1, h2, h3.later hb, h4, h5, by have := hb.size; omega, own_below h7 hb, h8, h9⟩
theorem ic_grown {w w' : World} {b off : Nat} {l : List Int} {row : Option Nat} (h : IC w (some ⟨b, off, none⟩) l) (hg : w.grownBy w' row) (hne : ∀ g, row = some g → g ≠ b) : IC w' (some ⟨b, off, none⟩) l := by
  intro k hk
  obtain ⟨b', off', hb, hbs, hc⟩ := h k hk
  cases hb
  refine ⟨b, off, rfl, Nat.lt_of_lt_of_le hbs hg.size, ?_⟩
  rw [← hc]
  exact World.cell?_of_block (hg.block b hbs (fun e => hne b e.symm rfl))
end Go.KD
namespace Go.Proofs.Ytmilpahggceemaa
open Go.RowKit Go.KD
attribute [local go_sem] later_cell later_frozen
