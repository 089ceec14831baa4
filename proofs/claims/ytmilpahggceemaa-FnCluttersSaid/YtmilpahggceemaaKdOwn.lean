/- Contracts of slices.Clone of rows of three and of impl.own. -/
import Derived.Test.YtmilpahggceemaaKdReachW
import Derived.Test.YtmilpahggceemaaKdChg
import Derived.RegionTactic
import Derived.ChangeAlike
set_option linter.unusedVariables false
set_option linter.unusedSimpArgs false
namespace Go.KD
open Go.RowKit
theorem get_c3' (l : List D3) (j : Nat) (hj : j < l.length * 3) : (c3 l)[j]? = some (.int .i64 (if j % 3 = 0 then (l[j / 3]!).1 else if j % 3 = 1 then (l[j / 3]!).2.1 else (l[j / 3]!).2.2)) := by
  obtain ⟨h0, h1, h2⟩ := get_c3 l (j / 3) (by omega)
  by_cases a : j % 3 = 0
  · rw [if_pos a, ← h0]; congr 1; omega
  · rw [if_neg a]
    by_cases b : j % 3 = 1
    · rw [if_pos b, ← h1]; congr 1; omega
    · rw [if_neg b, ← h2]; congr 1; omega
theorem d3_news {w : World} {ad : Addr} {l : List D3} (h : D3C w (some ad) l) : ∀ j u, (c3 l)[j]? = some u → w.cell? (ad.add j) = some u := by
  intro j u hu
  have hj : j < l.length * 3 := by
    rcases Nat.lt_or_ge j (l.length * 3) with h | h
    · exact h
    · rw [List.getElem?_eq_none (by rw [length_c3]; exact h)] at hu; cases hu
  obtain ⟨b, off, hb, hbs, c0, c1, c2⟩ := h (j / 3) (by omega)
  cases hb
  rw [add_at rfl, ← hu, get_c3' l j hj]
  by_cases a : j % 3 = 0
  · rw [if_pos a, ← c0]; congr 2; omega
  · rw [if_neg a]
    by_cases b : j % 3 = 1
    · rw [if_pos b, ← c1]; congr 2; omega
    · rw [if_neg b, ← c2]; congr 2; omega
theorem c3_one {l : List D3} : ∀ u ∈ c3 l, u.oneCell' = true := by
  intro u hu
  simp only [c3, List.mem_flatMap, List.mem_cons, List.not_mem_nil, or_false] at hu
  obtain ⟨d, _, h⟩ := hu
  rcases h with h | h | h <;> subst h <;> rfl
/-- Six cells and three marks of two blocks. -/
structure Six (W : World) (n : Nat) (a b c x y z : Value) : Prop where
  a : W.cell? ⟨n, 0, none⟩ = some a
  b : W.cell? ⟨n, 1, none⟩ = some b
  c : W.cell? ⟨n, 2, none⟩ = some c
  x : W.cell? ⟨n + 1, 0, none⟩ = some x
  y : W.cell? ⟨n + 1, 1, none⟩ = some y
  z : W.cell? ⟨n + 1, 2, none⟩ = some z
  fx : W.frozen? ⟨n + 1, 0, none⟩ = false
  fy : W.frozen? ⟨n + 1, 1, none⟩ = false
  fz : W.frozen? ⟨n + 1, 2, none⟩ = false
  sz : n + 1 < W.heap.size
theorem Six.later {W W' : World} {n : Nat} {a b c x y z : Value} (h : Six W n a b c x y z) (hb : Below W.heap.size W W') : Six W' n a b c x y z := by
  have hs := h.sz
  have hz := hb.size
  refine ⟨?_, ?_, ?_, ?_, ?_, ?_, ?_, ?_, ?_, by omega⟩
  · rw [hb.cell (p := ⟨n, 0, none⟩) (by show n < _; omega)]; exact h.a
  · rw [hb.cell (p := ⟨n, 1, none⟩) (by show n < _; omega)]; exact h.b
  · rw [hb.cell (p := ⟨n, 2, none⟩) (by show n < _; omega)]; exact h.c
  · rw [hb.cell (p := ⟨n + 1, 0, none⟩) hs]; exact h.x
  · rw [hb.cell (p := ⟨n + 1, 1, none⟩) hs]; exact h.y
  · rw [hb.cell (p := ⟨n + 1, 2, none⟩) hs]; exact h.z
  · rw [hb.frozen (p := ⟨n + 1, 0, none⟩) hs]; exact h.fx
  · rw [hb.frozen (p := ⟨n + 1, 1, none⟩) hs]; exact h.fy
  · rw [hb.frozen (p := ⟨n + 1, 2, none⟩) hs]; exact h.fz
end Go.KD
namespace Go.Proofs.Ytmilpahggceemaa
open Go.RowKit Go.KD
attribute [local go_sem] later_cell later_frozen
