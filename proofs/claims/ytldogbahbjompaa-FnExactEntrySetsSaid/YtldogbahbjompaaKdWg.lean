/- The visits of works as a graph over numbers; its steps lead back. Plain words. -/
import Derived.Test.YtldogbahbjompaaKdRun
import Derived.Test.YtldogbahbjompaaKdBfs
set_option linter.unusedVariables false
set_option linter.unusedSimpArgs false
namespace Go.KD
open Go.RowKit
def wSt (m : Wk) (x l : Nat) (a : Int) : Nat := (doP m x l a).1.toNat * 64 + (doP m x l a).2.toNat
def nxW (m : Wk) (i : Nat) : List Nat := if ((i / 64 : Nat) : Int) < m.size then (actsL m (i / 64 : Nat) (i % 64 : Nat)).map (fun a => wSt m (i / 64) (i % 64) a) else []
theorem pull_small {m : Wk} (ok : WkOk m) {x : Nat} (hx : (x : Int) < m.size) : 0 ≤ m.pulls[x]! ∧ m.pulls[x]! < 64 := by
  have := ok.pl x (by have := ok.np; omega)
  rw [setB_true] at this
  omega
theorem do_nat {m : Wk} (ok : WkOk m) {x l : Nat} (hx : (x : Int) < m.size) (hl : l < 64) {a : Int} (ha : a ∈ actsL m x l) : ∃ y k : Nat, doP m x l a = ((y : Int), (k : Int)) ∧ (y : Int) < m.size ∧ k < 64 ∧ wSt m x l a = y * 64 + k := by
  have hr := act_range ok hx (by rw [hasI_iff]; exact ha)
  rcases hr with rfl | ⟨h0, h1⟩
  · have hp := pull_small ok hx
    have hx2 := xorV_small (a := (l : Int)) (b := m.pulls[x]!) (by omega) hp
    refine ⟨x, (xorV l m.pulls[x]!).toNat, ?_, hx, by omega, ?_⟩
    · simp only [doP]; rw [if_pos (by omega)]
      simp only [Int.toNat_natCast]
      rw [Int.toNat_of_nonneg hx2.1]
    · simp [wSt, doP]
  · refine ⟨a.toNat, l, ?_, by omega, hl, ?_⟩
    · simp only [doP]; rw [if_neg (by omega)]
      rw [Int.toNat_of_nonneg h0]
    · simp only [wSt, doP]; rw [if_neg (by omega)]
      simp
theorem nxW_in {m : Wk} {i j : Nat} (h : j ∈ nxW m i) : ((i / 64 : Nat) : Int) < m.size ∧ ∃ a ∈ actsL m (i / 64 : Nat) (i % 64 : Nat), wSt m (i / 64) (i % 64) a = j := by
  unfold nxW at h
  split at h
  · rename_i hx
    exact ⟨hx, List.mem_map.1 h⟩
  · cases h
theorem nxW_lt {m : Wk} (ok : WkOk m) : bNx (nxW m) := by
  intro i hi j hj
  obtain ⟨hx, a, ha, rfl⟩ := nxW_in hj
  obtain ⟨y, k, -, hy, hk, he⟩ := do_nat ok hx (Nat.mod_lt _ (by omega)) ha
  have := ok.s2
  omega
theorem nxW_bound {m : Wk} (ok : WkOk m) {i j : Nat} (hj : j ∈ nxW m i) : ((j / 64 : Nat) : Int) < m.size := by
  obtain ⟨hx, a, ha, rfl⟩ := nxW_in hj
  obtain ⟨y, k, -, hy, hk, he⟩ := do_nat ok hx (Nat.mod_lt _ (by omega)) ha
  rw [he]
  have : (y * 64 + k) / 64 = y := by omega
  rw [this]; exact hy
theorem setN_bitW (s : Nat) (a : Int) (i : Nat) : (setN s a).testBit i = (s.testBit i || decide (a.toNat = i)) := by
  unfold setN; rw [Nat.testBit_or, Nat.testBit_two_pow]
theorem nb_bit {m : Wk} (ok : WkOk m) (x : Nat) (l : Int) (y : Nat) : ∀ n, n ≤ m.gates.length → ((nbK m.gates x l n).testBit y = true ↔ ∃ k, k < n ∧ openB m.gates[k]! l = true ∧ ((m.gates[k]!.2.1 = x ∧ m.gates[k]!.1 = y) ∨ (m.gates[k]!.1 = x ∧ m.gates[k]!.2.1 = y)))
  | 0, _ => by simp [nbK]
  | n + 1, hn => by
    have ih := nb_bit ok x l y n (by omega)
    rw [nb_step (by omega)]
    obtain ⟨a, b, c, d, hg⟩ : ∃ a b c d, m.gates[n]! = (a, b, c, d) := ⟨_, _, _, _, rfl⟩
    have f := gate_facts ok (by omega) hg
    have key : (adjG x l (nbK m.gates x l n) m.gates[n]!).testBit y = true ↔ ((nbK m.gates x l n).testBit y = true ∨ (openB m.gates[n]! l = true ∧ ((m.gates[n]!.2.1 = x ∧ m.gates[n]!.1 = y) ∨ (m.gates[n]!.1 = x ∧ m.gates[n]!.2.1 = y)))) := by
      rw [hg]
      unfold adjG
      dsimp only
      by_cases ho : openB (a, b, c, d) l = true
      · rw [if_pos ho]
        have d1 : decide (a.toNat = y) = decide (a = (y : Int)) := by rw [decide_eq_decide]; omega
        have d2 : decide (b.toNat = y) = decide (b = (y : Int)) := by rw [decide_eq_decide]; omega
        have hb : ∀ s : Nat, (if b = (x : Int) then setN (if a = (x : Int) then setN s b else s) a else (if a = (x : Int) then setN s b else s)).testBit y = ((s.testBit y || (decide (a = (x : Int)) && decide (b = (y : Int)))) || (decide (b = (x : Int)) && decide (a = (y : Int)))) := by
          intro s
          by_cases h1 : b = (x : Int)
          · rw [if_pos h1, setN_bitW, d1, decide_eq_true h1]
            by_cases h2 : a = (x : Int)
            · rw [if_pos h2, setN_bitW, d2, decide_eq_true h2]; simp
            · rw [if_neg h2, decide_eq_false h2]; simp
          · rw [if_neg h1, decide_eq_false h1]
            by_cases h2 : a = (x : Int)
            · rw [if_pos h2, setN_bitW, d2, decide_eq_true h2]; simp
            · rw [if_neg h2, decide_eq_false h2]; simp
        rw [hb]
        simp only [Bool.or_eq_true, Bool.and_eq_true, decide_eq_true_eq]
        constructor
        · rintro ((h | h) | h)
          · exact .inl h
          · exact .inr ⟨ho, .inr h⟩
          · exact .inr ⟨ho, .inl h⟩
        · rintro (h | ⟨-, h | h⟩)
          · exact .inl (.inl h)
          · exact .inr h
          · exact .inl (.inr h)
      · rw [if_neg ho]
        simp [ho]
    rw [key, ih]
    constructor
    · rintro (⟨k, hk, h⟩ | h)
      · exact ⟨k, by omega, h⟩
      · exact ⟨n, by omega, h⟩
    · rintro ⟨k, hk, h⟩
      rcases Nat.lt_or_ge k n with hkn | hkn
      · exact .inl ⟨k, hkn, h⟩
      · obtain rfl : k = n := by omega
        exact .inr h
theorem act_pull {m : Wk} {x l : Nat} : (-1 : Int) ∈ actsL m x l ↔ m.pulls[x]! ≠ 0 := by
  unfold actsL
  rw [List.mem_append, Int.toNat_natCast]
  constructor
  · rintro (h | h)
    · split at h
      · cases h
      · assumption
    · rw [in_mem] at h
      obtain ⟨i, -, -, h⟩ := h
      omega
  · intro h
    left
    rw [if_neg h]; simp
theorem act_move {m : Wk} (ok : WkOk m) {x l y : Nat} (hy : y < 40) : ((y : Int) ∈ actsL m x l) ↔ ∃ k, k < m.gates.length ∧ openB m.gates[k]! l = true ∧ ((m.gates[k]!.2.1 = x ∧ m.gates[k]!.1 = y) ∨ (m.gates[k]!.1 = x ∧ m.gates[k]!.2.1 = y)) := by
  rw [← nb_bit ok x l y _ (Nat.le_refl _)]
  unfold actsL
  rw [List.mem_append, in_mem]
  constructor
  · rintro (h | ⟨i, -, h, he⟩)
    · split at h
      · cases h
      · rw [List.mem_singleton] at h
        omega
    · have : y = i := by omega
      rw [this]; exact h
  · intro h
    exact .inr ⟨y, hy, h, rfl⟩
theorem xor_back (a b : Nat) : (a ^^^ b) ^^^ b = a := by rw [Nat.xor_assoc, Nat.xor_self, Nat.xor_zero]
theorem nxW_sym {m : Wk} (ok : WkOk m) : ∀ i j, i < 768 → j ∈ nxW m i → i ∈ nxW m j := by
  intro i j hi hj
  have hb := nxW_bound ok hj
  obtain ⟨hx, a, ha, rfl⟩ := nxW_in hj
  obtain ⟨x, hxe⟩ : ∃ x, x = i / 64 := ⟨_, rfl⟩
  obtain ⟨l, hle⟩ : ∃ l, l = i % 64 := ⟨_, rfl⟩
  have hl : l < 64 := by rw [hle]; exact Nat.mod_lt _ (by omega)
  have hie : x * 64 + l = i := by omega
  rw [← hxe] at hx ha
  rw [← hle] at ha
  rw [← hxe, ← hle] at hj hb ⊢
  have hs2 := ok.s2
  obtain ⟨y, k, hd, hy, hk, he⟩ := do_nat ok hx hl ha
  have e1 : wSt m x l a / 64 = y := by rw [he]; omega
  have e2 : wSt m x l a % 64 = k := by rw [he]; omega
  unfold nxW
  rw [e1, e2, if_pos hy, List.mem_map]
  rcases act_range ok hx (by rw [hasI_iff]; exact ha) with rfl | ⟨h0, h1⟩
  · have hp := pull_small ok hx
    have hpz := act_pull.1 ha
    have hd' : doP m x l (-1) = ((x : Int), xorV l m.pulls[x]!) := by simp only [doP]; rw [if_pos (by omega)]; simp
    rw [hd'] at hd
    simp only [Prod.mk.injEq] at hd
    have hxy : x = y := by omega
    subst hxy
    have hkv : k = l ^^^ m.pulls[x]!.toNat := by have := hd.2; simp only [xorV, Int.toNat_natCast] at this; omega
    refine ⟨-1, act_pull.2 hpz, ?_⟩
    have hd2 : doP m x k (-1) = ((x : Int), xorV k m.pulls[x]!) := by simp only [doP]; rw [if_pos (by omega)]; simp
    unfold wSt
    rw [hd2]
    simp only [xorV, Int.toNat_natCast]
    rw [hkv, xor_back]; exact hie
  · obtain ⟨an, rfl⟩ := Int.eq_ofNat_of_zero_le h0
    have hd' : doP m x l (an : Int) = ((an : Int), (l : Int)) := by simp only [doP]; rw [if_neg (by omega)]
    rw [hd'] at hd
    simp only [Prod.mk.injEq] at hd
    have hay : an = y := by omega
    have hlk : l = k := by omega
    subst hay hlk
    obtain ⟨q, hq, ho, hg⟩ := (act_move ok (by omega)).1 ha
    refine ⟨(x : Int), (act_move ok (by omega)).2 ⟨q, hq, ho, ?_⟩, ?_⟩
    · rcases hg with ⟨g1, g2⟩ | ⟨g1, g2⟩
      · exact .inr ⟨g2, g1⟩
      · exact .inl ⟨g2, g1⟩
    · have hd2 : doP m an l (x : Int) = ((x : Int), (l : Int)) := by simp only [doP]; rw [if_neg (by omega)]
      unfold wSt
      rw [hd2]
      simp only [Int.toNat_natCast]
      exact hie
/-- The grid of a search. -/
def gridL (E : List Bn) : List Int := (List.range 768).map fun i => bD E i
theorem gridL_len (E : List Bn) : (gridL E).length = 768 := by simp [gridL]
theorem gridL_at (E : List Bn) {i : Nat} (h : i < 768) : (gridL E)[i]! = bD E i := by
  rw [getElem!_pos _ i (by rw [gridL_len]; exact h)]; simp [gridL]
theorem bD_snoc_same {E : List Bn} {y c : Nat} (h : E.any (fun e => e.1 == y) = false) : bD (E ++ [(y, c)]) y = (c : Int) := by
  unfold bD
  rw [List.find?_append]
  have : E.find? (fun e => e.1 == y) = none := by
    rw [List.find?_eq_none]
    intro e he
    have := List.any_eq_false.1 h e he
    simpa using this
  rw [this]; simp
theorem bD_snoc_other {E : List Bn} {y c z : Nat} (h : y ≠ z) : bD (E ++ [(y, c)]) z = bD E z := by
  unfold bD
  rw [List.find?_append]
  have : ([(y, c)] : List Bn).find? (fun e => e.1 == z) = none := by simp [h]
  rw [this, Option.or_none]
theorem gridL_snoc {E : List Bn} {y c : Nat} (h : E.any (fun e => e.1 == y) = false) (hy : y < 768) : (gridL E).set y (c : Int) = gridL (E ++ [(y, c)]) := by
  apply List.ext_getElem
  · rw [List.length_set, gridL_len, gridL_len]
  · intro i h1 h2
    rw [gridL_len] at h2
    rw [List.getElem_set]
    have e1 : ∀ F : List Bn, ∀ hh : i < (gridL F).length, (gridL F)[i] = bD F i := fun F hh => by simp [gridL]
    split
    · rename_i e
      subst e
      rw [e1, bD_snoc_same h]
    · rename_i e
      rw [e1, e1, bD_snoc_other e]
theorem gridL_nil : gridL [] = List.replicate 768 (-1) := by
  obtain ⟨N, hN⟩ : ∃ N : Nat, N = 768 := ⟨_, rfl⟩
  unfold gridL
  rw [← hN]
  apply List.ext_getElem
  · simp
  · intro i h1 h2
    rw [List.getElem_map, List.getElem_replicate]; rfl
/-- A number as a visit. -/
def prN (i : Nat) : Int × Int := (((i / 64 : Nat) : Int), ((i % 64 : Nat) : Int))
def prs (E : List Bn) : List (Int × Int) := E.map fun e => prN e.1
end Go.KD
