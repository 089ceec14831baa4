/- Breadth first search over numbers below 768: plain words, no program. The visits of works as a graph over numbers; its steps lead back. Plain words. Contract of spec.l8Spread: the least numbers of acts, a search over numbers. Draws of nodes of works, of plans, and the draws of the laws of works. Printed by dev/mk_wdraw2.py. -/
import Derived.Test.YtmilpahggceemaaKpFp1
import Derived.Test.YtmilpahggceemaaKpFp6
import Derived.Test.YtmilpahggceemaaKpFp0
import Derived.Deep.DeepCutAuto
import Derived.Deep.RegionHeld3
import Derived.Deep.AppendLies
import Derived.Deep.OwnRows
import Derived.Deep.WholeRow
import Derived.Test.YtmilpahggceemaaKpFp5
set_option linter.unusedVariables false
set_option linter.unusedSimpArgs false
namespace Go.KD
open Go.RowKit
abbrev Bn := Nat × Nat
def bAdd (c : Nat) (E : List Bn) (y : Nat) : List Bn := if E.any (fun e => e.1 == y) then E else E ++ [(y, c)]
def bExpJ (nx : Nat → List Nat) (E : List Bn) (i j : Nat) : List Bn := ((nx (E[i]!).1).take j).foldl (bAdd ((E[i]!).2 + 1)) E
def bExp (nx : Nat → List Nat) (E : List Bn) (i : Nat) : List Bn := bExpJ nx E i (nx (E[i]!).1).length
def bfE (nx : Nat → List Nat) (E0 : List Bn) : Nat → List Bn
  | 0 => E0
  | i + 1 => if i < (bfE nx E0 i).length then bExp nx (bfE nx E0 i) i else bfE nx E0 i
def bfF (nx : Nat → List Nat) (E0 : List Bn) : List Bn := bfE nx E0 768
def bD (E : List Bn) (y : Nat) : Int := match E.find? (fun e => e.1 == y) with | some e => (e.2 : Int) | none => -1
/-- There is a walk of k steps. -/
def bWalk (nx : Nat → List Nat) : Nat → Nat → Nat → Prop
  | 0, s, y => s = y
  | k + 1, s, y => ∃ z, bWalk nx k s z ∧ y ∈ nx z
def bNx (nx : Nat → List Nat) : Prop := ∀ x, x < 768 → ∀ y ∈ nx x, y < 768
/-- The search in round i, with j of the round's steps done. -/
structure BOk (nx : Nat → List Nat) (S : List Nat) (E : List Bn) (i j : Nat) : Prop where
  nd : (E.map (·.1)).Nodup
  lt : ∀ e ∈ E, e.1 < 768
  so : ∀ a b, a ≤ b → b < E.length → (E[a]!).2 ≤ (E[b]!).2
  hi : i < E.length → ∀ b, b < E.length → (E[b]!).2 ≤ (E[i]!).2 + 1
  cl : ∀ a, a < i → a < E.length → ∀ y ∈ nx (E[a]!).1, ∃ e ∈ E, e.1 = y ∧ e.2 ≤ (E[a]!).2 + 1
  pj : ∀ y ∈ (nx (E[i]!).1).take j, ∃ e ∈ E, e.1 = y ∧ e.2 ≤ (E[i]!).2 + 1
  sd : ∀ e ∈ E, ∃ s ∈ S, bWalk nx e.2 s e.1
  st : ∀ s ∈ S, ∃ e ∈ E, e.1 = s ∧ e.2 = 0
theorem bApp_l {E : List Bn} {z : Bn} {a : Nat} (h : a < E.length) : (E ++ [z])[a]! = E[a]! := by
  rw [getElem!_pos (E ++ [z]) a (by simp; omega), getElem!_pos E a h, List.getElem_append_left]
theorem bApp_r {E : List Bn} {z : Bn} : (E ++ [z])[E.length]! = z := by
  rw [getElem!_pos _ _ (by simp)]; simp
theorem bLt_of {l : List Nat} {n : Nat} (hn : l.Nodup) (h : ∀ x ∈ l, x < n) : l.length ≤ n := by
  have hp : l.Perm ((List.range n).filter fun x => l.contains x) := by
    refine (List.perm_ext_iff_of_nodup hn (List.Pairwise.filter _ List.nodup_range)).2 fun x => ?_
    simp only [List.mem_filter, List.mem_range, List.contains_iff_mem]
    exact ⟨fun hx => ⟨h x hx, hx⟩, fun hx => hx.2⟩
  rw [hp.length_eq]
  exact Nat.le_trans (List.length_filter_le _ _) (by simp)
theorem BOk.le {nx : Nat → List Nat} {S : List Nat} {E : List Bn} {i j : Nat} (h : BOk nx S E i j) : E.length ≤ 768 := by
  have := bLt_of h.nd (n := 768) (fun x hx => by obtain ⟨e, he, rfl⟩ := List.mem_map.1 hx; exact h.lt e he)
  simpa using this
theorem bAdd_yes {c : Nat} {E : List Bn} {y : Nat} (h : E.any (fun e => e.1 == y) = true) : bAdd c E y = E := by unfold bAdd; rw [if_pos h]
theorem bAdd_no {c : Nat} {E : List Bn} {y : Nat} (h : E.any (fun e => e.1 == y) = false) : bAdd c E y = E ++ [(y, c)] := by unfold bAdd; rw [if_neg (by rw [h]; simp)]
theorem bTake {l : List Nat} {j : Nat} (hj : j < l.length) : l.take (j + 1) = l.take j ++ [l[j]!] := by rw [List.take_add_one, List.getElem?_eq_getElem hj, getElem!_pos l j hj]; rfl
theorem bExpJ_step (nx : Nat → List Nat) (E : List Bn) (i : Nat) {j : Nat} (hj : j < (nx (E[i]!).1).length) : bExpJ nx E i (j + 1) = bAdd ((E[i]!).2 + 1) (bExpJ nx E i j) (nx (E[i]!).1)[j]! := by
  unfold bExpJ
  rw [bTake hj, List.foldl_append]
  rfl
theorem bAdd_pre (c : Nat) (E : List Bn) (y : Nat) : E <+: bAdd c E y := by
  unfold bAdd; split
  · exact List.prefix_refl _
  · exact List.prefix_append _ _
theorem bFold_pre (c : Nat) : ∀ (l : List Nat) (E : List Bn), E <+: l.foldl (bAdd c) E
  | [], E => List.prefix_refl _
  | k :: l, E => (bAdd_pre c E k).trans (bFold_pre c l _)
theorem bExpJ_pre (nx : Nat → List Nat) (E : List Bn) (i j : Nat) : E <+: bExpJ nx E i j := bFold_pre _ _ _
theorem bPre_at {l l' : List Bn} (h : l <+: l') {i : Nat} (hi : i < l.length) : l'[i]! = l[i]! := by
  obtain ⟨t, rfl⟩ := h
  rw [getElem!_pos (l ++ t) i (by simp; omega), getElem!_pos l i hi, List.getElem_append_left]
theorem bMem {E : List Bn} {i : Nat} (h : i < E.length) : E[i]! ∈ E := by rw [getElem!_pos E i h]; exact List.getElem_mem h
theorem bIdx {E : List Bn} {e : Bn} (h : e ∈ E) : ∃ i, i < E.length ∧ E[i]! = e := by
  obtain ⟨i, hi, he⟩ := List.mem_iff_getElem.1 h
  exact ⟨i, hi, by rw [getElem!_pos E i hi]; exact he⟩
theorem BOk.add {nx : Nat → List Nat} {S : List Nat} {E : List Bn} {i j : Nat} (hn : bNx nx) (h : BOk nx S E i j) (hi : i < E.length) (hj : j < (nx (E[i]!).1).length) : BOk nx S (bAdd ((E[i]!).2 + 1) E (nx (E[i]!).1)[j]!) i (j + 1) := by
  obtain ⟨y, hy⟩ : ∃ y, y = (nx (E[i]!).1)[j]! := ⟨_, rfl⟩
  have hyn : y ∈ nx (E[i]!).1 := by rw [hy, getElem!_pos _ j hj]; exact List.getElem_mem hj
  have hyl : y < 768 := hn _ (h.lt _ (bMem hi)) y hyn
  rw [← hy]
  cases ha : E.any (fun e => e.1 == y)
  · rw [bAdd_no ha]
    have hne : ∀ e ∈ E, e.1 ≠ y := fun e he h' => by
      have := (List.any_eq_false.1 ha) e he
      simp [h'] at this
    have ei : (E ++ [(y, (E[i]!).2 + 1)])[i]! = E[i]! := bApp_l hi
    refine ⟨?_, ?_, ?_, ?_, ?_, ?_, ?_, ?_⟩
    · rw [List.map_append, List.nodup_append]
      refine ⟨h.nd, by simp, fun a ha b hb hab => ?_⟩
      obtain ⟨e, he, rfl⟩ := List.mem_map.1 ha
      have : b = y := by simpa using hb
      exact hne e he (by rw [hab, this])
    · intro e he
      rw [List.mem_append] at he
      rcases he with he | he
      · exact h.lt e he
      · have : e = (y, (E[i]!).2 + 1) := by simpa using he
        rw [this]; exact hyl
    · intro a b hab hb
      simp only [List.length_append, List.length_singleton] at hb
      rcases Nat.lt_or_ge b E.length with hbl | hbl
      · rw [bApp_l hbl, bApp_l (by omega)]; exact h.so a b hab hbl
      · obtain rfl : b = E.length := by omega
        rw [bApp_r]
        rcases Nat.lt_or_ge a E.length with hal | hal
        · rw [bApp_l hal]; exact h.hi hi a hal
        · obtain rfl : a = E.length := by omega
          rw [bApp_r]; exact Nat.le_refl _
    · intro _ b hb
      simp only [List.length_append, List.length_singleton] at hb
      rw [ei]
      rcases Nat.lt_or_ge b E.length with hbl | hbl
      · rw [bApp_l hbl]; exact h.hi hi b hbl
      · obtain rfl : b = E.length := by omega
        rw [bApp_r]; exact Nat.le_refl _
    · intro a hai _ y' hy'
      rw [bApp_l (by omega)] at hy' ⊢
      obtain ⟨e, he, h1, h2⟩ := h.cl a hai (by omega) y' hy'
      exact ⟨e, by simp [he], h1, h2⟩
    · intro y' hy'
      rw [ei] at hy' ⊢
      rw [bTake hj, List.mem_append] at hy'
      rcases hy' with hy' | hy'
      · obtain ⟨e, he, h1, h2⟩ := h.pj y' hy'
        exact ⟨e, by simp [he], h1, h2⟩
      · have : y' = y := by rw [hy]; simpa using hy'
        subst this
        exact ⟨(y', (E[i]!).2 + 1), by simp, rfl, Nat.le_refl _⟩
    · intro e he
      rw [List.mem_append] at he
      rcases he with he | he
      · exact h.sd e he
      · have : e = (y, (E[i]!).2 + 1) := by simpa using he
        subst this
        obtain ⟨s, hs, hw⟩ := h.sd _ (bMem hi)
        exact ⟨s, hs, _, hw, hyn⟩
    · intro s hs
      obtain ⟨e, he, h1, h2⟩ := h.st s hs
      exact ⟨e, by simp [he], h1, h2⟩
  · rw [bAdd_yes ha]
    refine ⟨h.nd, h.lt, h.so, h.hi, h.cl, ?_, h.sd, h.st⟩
    intro y' hy'
    rw [bTake hj, List.mem_append] at hy'
    rcases hy' with hy' | hy'
    · exact h.pj y' hy'
    · have : y' = y := by rw [hy]; simpa using hy'
      subst this
      obtain ⟨e, he, h1⟩ := List.any_eq_true.1 ha
      have h1 : e.1 = y' := by simpa using h1
      obtain ⟨b, hb, rfl⟩ := bIdx he
      exact ⟨_, he, h1, h.hi hi b hb⟩
theorem BOk.exp {nx : Nat → List Nat} {S : List Nat} {E : List Bn} {i : Nat} (hn : bNx nx) (h : BOk nx S E i 0) (hi : i < E.length) : ∀ j, j ≤ (nx (E[i]!).1).length → BOk nx S (bExpJ nx E i j) i j
  | 0, _ => by simpa [bExpJ] using h
  | j + 1, hj => by
    have ih := BOk.exp hn h hi j (by omega)
    have hp := bExpJ_pre nx E i j
    have hat := bPre_at hp hi
    rw [bExpJ_step nx E i (by omega)]
    have := ih.add hn (Nat.lt_of_lt_of_le hi hp.length_le) (by rw [hat]; omega)
    rwa [hat] at this
theorem BOk.next {nx : Nat → List Nat} {S : List Nat} {E : List Bn} {i : Nat} (hn : bNx nx) (h : BOk nx S E i 0) (hi : i < E.length) : BOk nx S (bExp nx E i) (i + 1) 0 := by
  have h1 := h.exp hn hi _ (Nat.le_refl _)
  have hp := bExpJ_pre nx E i (nx (E[i]!).1).length
  have hat := bPre_at hp hi
  have hil := Nat.lt_of_lt_of_le hi hp.length_le
  have hall : ∀ y ∈ nx (E[i]!).1, ∃ e ∈ bExp nx E i, e.1 = y ∧ e.2 ≤ (E[i]!).2 + 1 := by
    have := h1.pj
    rw [hat, List.take_length] at this
    exact this
  refine ⟨h1.nd, h1.lt, h1.so, ?_, ?_, fun y hy => by simp at hy, h1.sd, h1.st⟩
  · intro hl b hb
    have h2 := h1.hi hil b hb
    have h3 := h1.so i (i + 1) (by omega) hl
    show _ ≤ ((bExpJ nx E i (nx (E[i]!).1).length)[i + 1]!).2 + 1
    exact Nat.le_trans h2 (Nat.add_le_add_right h3 1)
  · intro a ha hal y hy
    rcases Nat.lt_or_ge a i with hai | hai
    · exact h1.cl a hai hal y hy
    · obtain rfl : a = i := by omega
      have e : (bExp nx E a)[a]! = E[a]! := hat
      rw [e] at hy ⊢
      exact hall y hy
theorem bfE_ok {nx : Nat → List Nat} {S : List Nat} {E0 : List Bn} (hn : bNx nx) (h : BOk nx S E0 0 0) : ∀ i, BOk nx S (bfE nx E0 i) i 0
  | 0 => h
  | i + 1 => by
    have ih := bfE_ok hn h i
    show BOk nx S (if i < (bfE nx E0 i).length then bExp nx (bfE nx E0 i) i else bfE nx E0 i) (i + 1) 0
    split
    · rename_i hi; exact ih.next hn hi
    · rename_i hi
      refine ⟨ih.nd, ih.lt, ih.so, fun hl => by omega, fun a ha hal => ih.cl a (by omega) hal, fun y hy => by simp at hy, ih.sd, ih.st⟩
theorem b_start {nx : Nat → List Nat} {S : List Nat} (hS : S.Nodup) (hl : ∀ s ∈ S, s < 768) : BOk nx S (S.map fun s => ((s, 0) : Bn)) 0 0 := by
  have hz : ∀ b, b < (S.map fun s => ((s, 0) : Bn)).length → ((S.map fun s => ((s, 0) : Bn))[b]!).2 = 0 := fun b hb => by
    have := bMem hb
    obtain ⟨s, -, hs⟩ := List.mem_map.1 this
    rw [← hs]
  refine ⟨?_, ?_, ?_, ?_, fun a ha => by omega, fun y hy => by simp at hy, ?_, ?_⟩
  · rw [List.map_map]
    have : ((fun e : Bn => e.1) ∘ fun s => ((s, 0) : Bn)) = id := rfl
    rw [this, List.map_id]; exact hS
  · intro e he
    obtain ⟨s, hs, rfl⟩ := List.mem_map.1 he
    exact hl s hs
  · intro a b hab hb
    rw [hz b hb, hz a (by omega)]; exact Nat.le_refl _
  · intro h0 b hb
    rw [hz b hb]; omega
  · intro e he
    obtain ⟨s, hs, rfl⟩ := List.mem_map.1 he
    exact ⟨s, hs, rfl⟩
  · intro s hs
    exact ⟨(s, 0), List.mem_map.2 ⟨s, hs, rfl⟩, rfl, rfl⟩
/-! The ends of the search -/
theorem bfE_end {nx : Nat → List Nat} {E0 : List Bn} {i : Nat} (h : (bfE nx E0 i).length ≤ i) : ∀ d, bfE nx E0 (i + d) = bfE nx E0 i
  | 0 => rfl
  | d + 1 => by
    have ih := bfE_end h d
    show (if i + d < (bfE nx E0 (i + d)).length then bExp nx (bfE nx E0 (i + d)) (i + d) else bfE nx E0 (i + d)) = _
    rw [ih, if_neg (by omega)]
theorem bfF_eq {nx : Nat → List Nat} {E0 : List Bn} {i : Nat} (hi : i ≤ 768) (h : (bfE nx E0 i).length ≤ i) : bfF nx E0 = bfE nx E0 i := by
  unfold bfF
  rw [show 768 = i + (768 - i) from by omega, bfE_end h]
theorem bfE_next {nx : Nat → List Nat} {E0 : List Bn} {i : Nat} (hi : i < (bfE nx E0 i).length) : bfE nx E0 (i + 1) = bExp nx (bfE nx E0 i) i := by
  show (if i < (bfE nx E0 i).length then _ else _) = _
  rw [if_pos hi]
theorem bD_some {E : List Bn} {y : Nat} {e : Bn} (hn : (E.map (·.1)).Nodup) (he : e ∈ E) (h : e.1 = y) : bD E y = (e.2 : Int) := by
  unfold bD
  cases hf : E.find? (fun e => e.1 == y) with
  | none =>
    have := List.find?_eq_none.1 hf e he
    simp [h] at this
  | some e' =>
    have h1 : e'.1 = y := by simpa using List.find?_some hf
    have h2 := List.mem_of_find?_eq_some hf
    have : e = e' := by
      have h3 := h.trans h1.symm
      clear hf h h1
      induction E with
      | nil => cases he
      | cons a E ih =>
        rw [List.map_cons, List.nodup_cons] at hn
        rw [List.mem_cons] at he h2
        rcases he with rfl | he <;> rcases h2 with rfl | h2
        · rfl
        · exact absurd (List.mem_map.2 ⟨e', h2, h3.symm⟩) hn.1
        · exact absurd (List.mem_map.2 ⟨e, he, h3⟩) hn.1
        · exact ih hn.2 he h2
    rw [this]
theorem bD_none {E : List Bn} {y : Nat} (h : E.any (fun e => e.1 == y) = false) : bD E y = -1 := by
  unfold bD
  cases hf : E.find? (fun e => e.1 == y) with
  | none => rfl
  | some e' =>
    have h2 := List.mem_of_find?_eq_some hf
    have h1 := List.find?_some hf
    have := List.any_eq_false.1 h e' h2
    exact absurd h1 this
theorem bD_neg {E : List Bn} {y : Nat} : (bD E y < 0) ↔ E.any (fun e => e.1 == y) = false := by
  constructor
  · intro h
    cases ha : E.any (fun e => e.1 == y)
    · rfl
    · obtain ⟨e, he, h1⟩ := List.any_eq_true.1 ha
      unfold bD at h
      cases hf : E.find? (fun e => e.1 == y) with
      | none => have := List.find?_eq_none.1 hf e he; exact absurd h1 this
      | some e' => rw [hf] at h; simp at h; omega
  · intro h
    rw [bD_none h]; omega
/-- The answer c of a search from S at y. -/
def bAns (nx : Nat → List Nat) (S : List Nat) (y : Nat) (c : Int) : Prop := (c = -1 ∧ ∀ k s, s ∈ S → ¬ bWalk nx k s y) ∨ (0 ≤ c ∧ (∃ s ∈ S, bWalk nx c.toNat s y) ∧ ∀ k s, s ∈ S → bWalk nx k s y → c ≤ (k : Int))
theorem bAns_one {nx : Nat → List Nat} {S : List Nat} {y : Nat} {c d : Int} (h : bAns nx S y c) (h' : bAns nx S y d) : c = d := by
  rcases h with ⟨h1, h2⟩ | ⟨h1, ⟨s, hs, hw⟩, h3⟩ <;> rcases h' with ⟨k1, k2⟩ | ⟨k1, ⟨t, ht, kw⟩, k3⟩
  · omega
  · exact absurd kw (h2 _ _ ht)
  · exact absurd hw (k2 _ _ hs)
  · have := h3 _ _ ht kw
    have := k3 _ _ hs hw
    omega
theorem bf_walk {nx : Nat → List Nat} {S : List Nat} {F : List Bn} (h : BOk nx S F 768 0) : ∀ (k s y : Nat), s ∈ S → bWalk nx k s y → ∃ e ∈ F, e.1 = y ∧ e.2 ≤ k
  | 0, s, y, hs, hw => by
    obtain ⟨e, he, h1, h2⟩ := h.st s hs
    have hw : s = y := hw
    exact ⟨e, he, by rw [h1, hw], by omega⟩
  | k + 1, s, y, hs, hw => by
    obtain ⟨z, hz, hy⟩ := hw
    obtain ⟨e, he, h1, h2⟩ := bf_walk h k s z hs hz
    obtain ⟨a, ha, rfl⟩ := bIdx he
    rw [← h1] at hy
    obtain ⟨e', he', k1, k2⟩ := h.cl a (by have := h.le; omega) ha y hy
    exact ⟨e', he', k1, by omega⟩
theorem bf_ans {nx : Nat → List Nat} {S : List Nat} {F : List Bn} (h : BOk nx S F 768 0) (y : Nat) : bAns nx S y (bD F y) := by
  cases ha : F.any (fun e => e.1 == y)
  · refine .inl ⟨bD_none ha, fun k s hs hw => ?_⟩
    obtain ⟨e, he, h1, -⟩ := bf_walk h k s y hs hw
    have := List.any_eq_false.1 ha e he
    simp [h1] at this
  · obtain ⟨e, he, h1⟩ := List.any_eq_true.1 ha
    have h1 : e.1 = y := by simpa using h1
    rw [bD_some h.nd he h1]
    refine .inr ⟨by omega, ?_, fun k s hs hw => ?_⟩
    · obtain ⟨s, hs, hw⟩ := h.sd e he
      exact ⟨s, hs, by rw [Int.toNat_natCast, ← h1]; exact hw⟩
    · obtain ⟨e', he', k1, k2⟩ := bf_walk h k s y hs hw
      have e1 := bD_some h.nd he h1
      have e2 := bD_some h.nd he' k1
      omega
/-- From a symmetric step: walks lead back. -/
theorem bWalk_cons {nx : Nat → List Nat} {z : Nat} : ∀ {k y s : Nat}, z ∈ nx y → bWalk nx k z s → bWalk nx (k + 1) y s
  | 0, y, s, h, hw => ⟨y, rfl, by have hw : z = s := hw; rw [← hw]; exact h⟩
  | k + 1, y, s, h, ⟨u, hu, hs⟩ => ⟨u, bWalk_cons h hu, hs⟩
theorem bWalk_lt {nx : Nat → List Nat} (hn : bNx nx) : ∀ {k s y : Nat}, s < 768 → bWalk nx k s y → y < 768
  | 0, s, y, hs, hw => by have hw : s = y := hw; omega
  | k + 1, s, y, hs, ⟨z, hz, hy⟩ => hn z (bWalk_lt hn hs hz) y hy
theorem bWalk_rev {nx : Nat → List Nat} (hn : bNx nx) (hsym : ∀ x y, x < 768 → y ∈ nx x → x ∈ nx y) : ∀ {k s y : Nat}, s < 768 → bWalk nx k s y → bWalk nx k y s
  | 0, s, y, hs, hw => by have hw : s = y := hw; exact hw.symm
  | k + 1, s, y, hs, ⟨z, hz, hy⟩ => bWalk_cons (hsym z y (bWalk_lt hn hs hz) hy) (bWalk_rev hn hsym hs hz)
end Go.KD

namespace Go.KD
open Go.RowKit
def wSt (m : Wk) (x l : Nat) (a : Int) : Nat := (doP m x l a).1.toNat * 64 + (doP m x l a).2.toNat
def nxW (m : Wk) (i : Nat) : List Nat := if ((i / 64 : Nat) : Int) < m.size then (actsL m (i / 64 : Nat) (i % 64 : Nat)).map (fun a => wSt m (i / 64) (i % 64) a) else []
theorem pull_small {m : Wk} (ok : WkOk m) {x : Nat} (hx : (x : Int) < m.size) : 0 ≤ m.pulls[x]! ∧ m.pulls[x]! < 64 := by
  have := ok.pl x (by have := ok.np; omega)
  rw [setB_true] at this
  omega
theorem do_nat {m : Wk} (ok : WkOk m) {x l : Nat} (hx : (x : Int) < m.size) (hl : l < 64) {a : Int} (ha : a ∈ actsL m x l) : ∃ y k : Nat, doP m x l a = ((y : Int), (k : Int)) ∧ (y : Int) < m.size ∧ k < 64 ∧ wSt m x l a = y * 64 + k := by
  have hr := act_range ok hx (by rw [hasI_iff]; exact ha)
  rcases hr with rfl | ⟨h0, h1⟩
  · have hp := pull_small ok hx
    have hx2 := xorV_small (a := (l : Int)) (b := m.pulls[x]!) (by omega) hp
    refine ⟨x, (xorV l m.pulls[x]!).toNat, ?_, hx, by omega, ?_⟩
    · simp only [doP]; rw [if_pos (by omega)]
      simp only [Int.toNat_natCast]
      rw [Int.toNat_of_nonneg hx2.1]
    · simp [wSt, doP]
  · refine ⟨a.toNat, l, ?_, by omega, hl, ?_⟩
    · simp only [doP]; rw [if_neg (by omega)]
      rw [Int.toNat_of_nonneg h0]
    · simp only [wSt, doP]; rw [if_neg (by omega)]
      simp
theorem nxW_in {m : Wk} {i j : Nat} (h : j ∈ nxW m i) : ((i / 64 : Nat) : Int) < m.size ∧ ∃ a ∈ actsL m (i / 64 : Nat) (i % 64 : Nat), wSt m (i / 64) (i % 64) a = j := by
  unfold nxW at h
  split at h
  · rename_i hx
    exact ⟨hx, List.mem_map.1 h⟩
  · cases h
theorem nxW_lt {m : Wk} (ok : WkOk m) : bNx (nxW m) := by
  intro i hi j hj
  obtain ⟨hx, a, ha, rfl⟩ := nxW_in hj
  obtain ⟨y, k, -, hy, hk, he⟩ := do_nat ok hx (Nat.mod_lt _ (by omega)) ha
  have := ok.s2
  omega
theorem nxW_bound {m : Wk} (ok : WkOk m) {i j : Nat} (hj : j ∈ nxW m i) : ((j / 64 : Nat) : Int) < m.size := by
  obtain ⟨hx, a, ha, rfl⟩ := nxW_in hj
  obtain ⟨y, k, -, hy, hk, he⟩ := do_nat ok hx (Nat.mod_lt _ (by omega)) ha
  rw [he]
  have : (y * 64 + k) / 64 = y := by omega
  rw [this]; exact hy
theorem setN_bitW (s : Nat) (a : Int) (i : Nat) : (setN s a).testBit i = (s.testBit i || decide (a.toNat = i)) := by
  unfold setN; rw [Nat.testBit_or, Nat.testBit_two_pow]
theorem nb_bit {m : Wk} (ok : WkOk m) (x : Nat) (l : Int) (y : Nat) : ∀ n, n ≤ m.gates.length → ((nbK m.gates x l n).testBit y = true ↔ ∃ k, k < n ∧ openB m.gates[k]! l = true ∧ ((m.gates[k]!.2.1 = x ∧ m.gates[k]!.1 = y) ∨ (m.gates[k]!.1 = x ∧ m.gates[k]!.2.1 = y)))
  | 0, _ => by simp [nbK]
  | n + 1, hn => by
    have ih := nb_bit ok x l y n (by omega)
    rw [nb_step (by omega)]
    obtain ⟨a, b, c, d, hg⟩ : ∃ a b c d, m.gates[n]! = (a, b, c, d) := ⟨_, _, _, _, rfl⟩
    have f := gate_facts ok (by omega) hg
    have key : (adjG x l (nbK m.gates x l n) m.gates[n]!).testBit y = true ↔ ((nbK m.gates x l n).testBit y = true ∨ (openB m.gates[n]! l = true ∧ ((m.gates[n]!.2.1 = x ∧ m.gates[n]!.1 = y) ∨ (m.gates[n]!.1 = x ∧ m.gates[n]!.2.1 = y)))) := by
      rw [hg]
      unfold adjG
      dsimp only
      by_cases ho : openB (a, b, c, d) l = true
      · rw [if_pos ho]
        have d1 : decide (a.toNat = y) = decide (a = (y : Int)) := by rw [decide_eq_decide]; omega
        have d2 : decide (b.toNat = y) = decide (b = (y : Int)) := by rw [decide_eq_decide]; omega
        have hb : ∀ s : Nat, (if b = (x : Int) then setN (if a = (x : Int) then setN s b else s) a else (if a = (x : Int) then setN s b else s)).testBit y = ((s.testBit y || (decide (a = (x : Int)) && decide (b = (y : Int)))) || (decide (b = (x : Int)) && decide (a = (y : Int)))) := by
          intro s
          by_cases h1 : b = (x : Int)
          · rw [if_pos h1, setN_bitW, d1, decide_eq_true h1]
            by_cases h2 : a = (x : Int)
            · rw [if_pos h2, setN_bitW, d2, decide_eq_true h2]; simp
            · rw [if_neg h2, decide_eq_false h2]; simp
          · rw [if_neg h1, decide_eq_false h1]
            by_cases h2 : a = (x : Int)
            · rw [if_pos h2, setN_bitW, d2, decide_eq_true h2]; simp
            · rw [if_neg h2, decide_eq_false h2]; simp
        rw [hb]
        simp only [Bool.or_eq_true, Bool.and_eq_true, decide_eq_true_eq]
        constructor
        · rintro ((h | h) | h)
          · exact .inl h
          · exact .inr ⟨ho, .inr h⟩
          · exact .inr ⟨ho, .inl h⟩
        · rintro (h | ⟨-, h | h⟩)
          · exact .inl (.inl h)
          · exact .inr h
          · exact .inl (.inr h)
      · rw [if_neg ho]
        simp [ho]
    rw [key, ih]
    constructor
    · rintro (⟨k, hk, h⟩ | h)
      · exact ⟨k, by omega, h⟩
      · exact ⟨n, by omega, h⟩
    · rintro ⟨k, hk, h⟩
      rcases Nat.lt_or_ge k n with hkn | hkn
      · exact .inl ⟨k, hkn, h⟩
      · obtain rfl : k = n := by omega
        exact .inr h
theorem act_pull {m : Wk} {x l : Nat} : (-1 : Int) ∈ actsL m x l ↔ m.pulls[x]! ≠ 0 := by
  unfold actsL
  rw [List.mem_append, Int.toNat_natCast]
  constructor
  · rintro (h | h)
    · split at h
      · cases h
      · assumption
    · rw [in_mem] at h
      obtain ⟨i, -, -, h⟩ := h
      omega
  · intro h
    left
    rw [if_neg h]; simp
theorem act_move {m : Wk} (ok : WkOk m) {x l y : Nat} (hy : y < 40) : ((y : Int) ∈ actsL m x l) ↔ ∃ k, k < m.gates.length ∧ openB m.gates[k]! l = true ∧ ((m.gates[k]!.2.1 = x ∧ m.gates[k]!.1 = y) ∨ (m.gates[k]!.1 = x ∧ m.gates[k]!.2.1 = y)) := by
  rw [← nb_bit ok x l y _ (Nat.le_refl _)]
  unfold actsL
  rw [List.mem_append, in_mem]
  constructor
  · rintro (h | ⟨i, -, h, he⟩)
    · split at h
      · cases h
      · rw [List.mem_singleton] at h
        omega
    · have : y = i := by omega
      rw [this]; exact h
  · intro h
    exact .inr ⟨y, hy, h, rfl⟩
theorem xor_back (a b : Nat) : (a ^^^ b) ^^^ b = a := by rw [Nat.xor_assoc, Nat.xor_self, Nat.xor_zero]
theorem nxW_sym {m : Wk} (ok : WkOk m) : ∀ i j, i < 768 → j ∈ nxW m i → i ∈ nxW m j := by
  intro i j hi hj
  have hb := nxW_bound ok hj
  obtain ⟨hx, a, ha, rfl⟩ := nxW_in hj
  obtain ⟨x, hxe⟩ : ∃ x, x = i / 64 := ⟨_, rfl⟩
  obtain ⟨l, hle⟩ : ∃ l, l = i % 64 := ⟨_, rfl⟩
  have hl : l < 64 := by rw [hle]; exact Nat.mod_lt _ (by omega)
  have hie : x * 64 + l = i := by omega
  rw [← hxe] at hx ha
  rw [← hle] at ha
  rw [← hxe, ← hle] at hj hb ⊢
  have hs2 := ok.s2
  obtain ⟨y, k, hd, hy, hk, he⟩ := do_nat ok hx hl ha
  have e1 : wSt m x l a / 64 = y := by rw [he]; omega
  have e2 : wSt m x l a % 64 = k := by rw [he]; omega
  unfold nxW
  rw [e1, e2, if_pos hy, List.mem_map]
  rcases act_range ok hx (by rw [hasI_iff]; exact ha) with rfl | ⟨h0, h1⟩
  · have hp := pull_small ok hx
    have hpz := act_pull.1 ha
    have hd' : doP m x l (-1) = ((x : Int), xorV l m.pulls[x]!) := by simp only [doP]; rw [if_pos (by omega)]; simp
    rw [hd'] at hd
    simp only [Prod.mk.injEq] at hd
    have hxy : x = y := by omega
    subst hxy
    have hkv : k = l ^^^ m.pulls[x]!.toNat := by have := hd.2; simp only [xorV, Int.toNat_natCast] at this; omega
    refine ⟨-1, act_pull.2 hpz, ?_⟩
    have hd2 : doP m x k (-1) = ((x : Int), xorV k m.pulls[x]!) := by simp only [doP]; rw [if_pos (by omega)]; simp
    unfold wSt
    rw [hd2]
    simp only [xorV, Int.toNat_natCast]
    rw [hkv, xor_back]; exact hie
  · obtain ⟨an, rfl⟩ := Int.eq_ofNat_of_zero_le h0
    have hd' : doP m x l (an : Int) = ((an : Int), (l : Int)) := by simp only [doP]; rw [if_neg (by omega)]
    rw [hd'] at hd
    simp only [Prod.mk.injEq] at hd
    have hay : an = y := by omega
    have hlk : l = k := by omega
    subst hay hlk
    obtain ⟨q, hq, ho, hg⟩ := (act_move ok (by omega)).1 ha
    refine ⟨(x : Int), (act_move ok (by omega)).2 ⟨q, hq, ho, ?_⟩, ?_⟩
    · rcases hg with ⟨g1, g2⟩ | ⟨g1, g2⟩
      · exact .inr ⟨g2, g1⟩
      · exact .inl ⟨g2, g1⟩
    · have hd2 : doP m an l (x : Int) = ((x : Int), (l : Int)) := by simp only [doP]; rw [if_neg (by omega)]
      unfold wSt
      rw [hd2]
      simp only [Int.toNat_natCast]
      exact hie
/-- The grid of a search. -/
def gridL (E : List Bn) : List Int := (List.range 768).map fun i => bD E i
theorem gridL_len (E : List Bn) : (gridL E).length = 768 := by simp [gridL]
theorem gridL_at (E : List Bn) {i : Nat} (h : i < 768) : (gridL E)[i]! = bD E i := by
  rw [getElem!_pos _ i (by rw [gridL_len]; exact h)]; simp [gridL]
theorem bD_snoc_same {E : List Bn} {y c : Nat} (h : E.any (fun e => e.1 == y) = false) : bD (E ++ [(y, c)]) y = (c : Int) := by
  unfold bD
  rw [List.find?_append]
  have : E.find? (fun e => e.1 == y) = none := by
    rw [List.find?_eq_none]
    intro e he
    have := List.any_eq_false.1 h e he
    simpa using this
  rw [this]; simp
theorem bD_snoc_other {E : List Bn} {y c z : Nat} (h : y ≠ z) : bD (E ++ [(y, c)]) z = bD E z := by
  unfold bD
  rw [List.find?_append]
  have : ([(y, c)] : List Bn).find? (fun e => e.1 == z) = none := by simp [h]
  rw [this, Option.or_none]
theorem gridL_snoc {E : List Bn} {y c : Nat} (h : E.any (fun e => e.1 == y) = false) (hy : y < 768) : (gridL E).set y (c : Int) = gridL (E ++ [(y, c)]) := by
  apply List.ext_getElem
  · rw [List.length_set, gridL_len, gridL_len]
  · intro i h1 h2
    rw [gridL_len] at h2
    rw [List.getElem_set]
    have e1 : ∀ F : List Bn, ∀ hh : i < (gridL F).length, (gridL F)[i] = bD F i := fun F hh => by simp [gridL]
    split
    · rename_i e
      subst e
      rw [e1, bD_snoc_same h]
    · rename_i e
      rw [e1, e1, bD_snoc_other e]
theorem gridL_nil : gridL [] = List.replicate 768 (-1) := by
  obtain ⟨N, hN⟩ : ∃ N : Nat, N = 768 := ⟨_, rfl⟩
  unfold gridL
  rw [← hN]
  apply List.ext_getElem
  · simp
  · intro i h1 h2
    rw [List.getElem_map, List.getElem_replicate]; rfl
/-- A number as a visit. -/
def prN (i : Nat) : Int × Int := (((i / 64 : Nat) : Int), ((i % 64 : Nat) : Int))
def prs (E : List Bn) : List (Int × Int) := E.map fun e => prN e.1
end Go.KD

namespace Go.KD
open Go.RowKit
theorem box3W {w wX : World} {T : TypeId} {a b c : Value} {B : Nat} (h : Below B (w.alloc (.cells #[a, b, c] T)) wX) (hB : w.heap.size < B) : wX.cell? ⟨w.heap.size, 0, none⟩ = some a ∧ wX.cell? ⟨w.heap.size, 1, none⟩ = some b ∧ wX.cell? ⟨w.heap.size, 2, none⟩ = some c ∧ w.heap.size < wX.heap.size := by
  refine ⟨?_, ?_, ?_, ?_⟩
  · rw [h.cell (p := ⟨w.heap.size, 0, none⟩) hB]; simp [go_sem]
  · rw [h.cell (p := ⟨w.heap.size, 1, none⟩) hB]; simp [go_sem]
  · rw [h.cell (p := ⟨w.heap.size, 2, none⟩) hB]; simp [go_sem]
  · have := h.size; simp at this; omega
theorem below_boxW {w wX : World} {o : Obj} {B : Nat} (h : Below B (w.alloc o) wX) (hB : w.heap.size ≤ B) : Below w.heap.size w wX := ((Below.refl _ _).alloc (Nat.le_refl _) o).trans (h.mono hB)
theorem own_belowW {w w' : World} {lo size n : Nat} {e : TypeId} {v : Value} {xs : List Value} (h : w.ownsRow lo e size v n xs) (hb : Below w.heap.size w w') : w'.ownsRow lo e size v n xs := ((Own.of h).later hb (Nat.le_refl _)).row
theorem own_grownW {w w' : World} {lo size n g r : Nat} {e : TypeId} {a c : Nat} {xs : List Value} (h : w.ownsRow lo e size (.slice (some ⟨g, a, none⟩) n c) n xs) (hb : w.grownBy w' (some r)) (hr : r ≠ g) : w'.ownsRow lo e size (.slice (some ⟨g, a, none⟩) n c) n xs := by
  refine ((Own.of h).grown_ne hb (fun b hbb e => ?_)).row
  have h1 : g = b := by simpa [Value.ownBlock] using hbb
  have h2 : r = b := by simpa using e
  exact hr (h2.trans h1.symm)
theorem own_intW {w : World} {lo g n cap : Nat} {e : TypeId} {L : List Int} (h : w.ownsRow lo e 1 (.slice (some ⟨g, 0, none⟩) n cap) n (ints L)) (c : Nat) (hc : c < n) (hl : L.length = n) : w.cell? ⟨g, c, none⟩ = some (.int .i64 L[c]!) := by
  rw [h.cellAt c (by omega), ints, List.getElem?_map, List.getElem?_eq_getElem (by omega), getElem!_pos L c (by omega)]
  rfl
theorem own_lt {w : World} {lo g n cap size : Nat} {e : TypeId} {xs : List Value} (h : w.ownsRow lo e size (.slice (some ⟨g, 0, none⟩) n cap) n xs) : g < w.heap.size := (Own.of h).top g rfl
theorem own_litW {W : World} {g lo : Nat} {e : TypeId} {v : Value} (h : W.heap[g]? = some (.cells #[v] e)) (hb : lo ≤ g) : W.ownsRow lo e 1 (.slice (some ⟨g, 0, none⟩) 1 1) 1 [v] :=
  ⟨rfl, .inr ⟨g, 1, #[v], rfl, hb, h, Nat.le_refl _, by unfold maxLen; omega, rfl, rfl⟩⟩
theorem own_madeW {base n g : Nat} {e : TypeId} (W : World) (hg : g = W.heap.size) (hb : base ≤ W.heap.size) (hn : n ≤ maxLen) (hm : (madeCells (Value.int .i64 0).cells (n * 1)).toList = ints (List.replicate n 0)) : (W.alloc (.cells (madeCells #[.int .i64 0] n) e)).ownsRow base e 1 (.slice (some ⟨g, 0, none⟩) n n) n (ints (List.replicate n 0)) := by
  subst hg
  have h := World.ownsRow_lit (base := base) (e := e) (size := 1) W (madeCells #[.int .i64 0] n) n hb hn (by simp [madeCells])
  rw [Nat.mul_one] at hm
  rw [show (madeCells #[Value.int .i64 0] n).toList = ints (List.replicate n 0) from hm] at h
  exact h
theorem ic_grownW {w w' : World} {r g off : Nat} {l : List Int} (h : IC w (some ⟨g, off, none⟩) l) (hg : w.grownBy w' (some r)) (hr : r ≠ g) : IC w' (some ⟨g, off, none⟩) l := by
  intro k hk
  obtain ⟨b, o, hb, hbs, hc⟩ := h k hk
  cases hb
  exact ⟨g, off, rfl, Nat.lt_of_lt_of_le hbs hg.size, by rw [← hc]; exact World.cell?_of_block (hg.block g hbs (fun e => hr (by simpa using e.symm)))⟩
def idsE (E : List Bn) : List Int := E.map fun e => (e.1 : Int)
@[simp] theorem idsE_len (E : List Bn) : (idsE E).length = E.length := by simp [idsE]
theorem idsE_at {E : List Bn} {i : Nat} (h : i < E.length) : (idsE E)[i]! = ((E[i]!).1 : Int) := by
  rw [getElem!_pos _ i (by simpa using h), getElem!_pos E i h]; simp [idsE]
theorem idsE_snoc (E : List Bn) (y c : Nat) : idsE (E ++ [(y, c)]) = idsE E ++ [(y : Int)] := by simp [idsE]
/-- The first n answers of a search. -/
def gridN (n : Nat) (E : List Bn) : List Int := (List.range n).map fun i => bD E i
theorem gridN_len (n : Nat) (E : List Bn) : (gridN n E).length = n := by simp [gridN]
theorem gridN_at (n : Nat) (E : List Bn) {i : Nat} (h : i < n) : (gridN n E)[i]! = bD E i := by
  rw [getElem!_pos _ i (by rw [gridN_len]; exact h)]; simp [gridN]
theorem gridN_snoc {n : Nat} {E : List Bn} {y c : Nat} (h : E.any (fun e => e.1 == y) = false) (hy : y < n) : (gridN n E).set y (c : Int) = gridN n (E ++ [(y, c)]) := by
  apply List.ext_getElem
  · rw [List.length_set, gridN_len, gridN_len]
  · intro i h1 h2
    rw [gridN_len] at h2
    rw [List.getElem_set]
    have e1 : ∀ F : List Bn, ∀ hh : i < (gridN n F).length, (gridN n F)[i] = bD F i := fun F hh => by simp [gridN]
    split
    · rename_i e
      subst e
      rw [e1, bD_snoc_same h]
    · rename_i e
      rw [e1, e1, bD_snoc_other e]
def iniN (n k : Nat) : List Int := List.replicate k (-1) ++ List.replicate (n - k) 0
theorem iniN_0 (n : Nat) : iniN n 0 = List.replicate n 0 := by unfold iniN; rw [List.replicate_zero, List.nil_append, Nat.sub_zero]
theorem iniN_len {n k : Nat} (h : k ≤ n) : (iniN n k).length = n := by unfold iniN; rw [List.length_append, List.length_replicate, List.length_replicate]; omega
theorem iniN_all (n : Nat) : iniN n n = gridN n [] := by
  unfold iniN
  rw [Nat.sub_self, List.replicate_zero, List.append_nil]
  apply List.ext_getElem
  · rw [List.length_replicate, gridN_len]
  · intro i h1 h2
    rw [List.getElem_replicate]; simp [gridN, bD]
theorem iniN_next {n k : Nat} (h : k < n) : (iniN n k).set k (-1) = iniN n (k + 1) := by
  unfold iniN
  obtain ⟨d, hd⟩ : ∃ d, n - k = d + 1 := ⟨n - k - 1, by omega⟩
  have e : n - (k + 1) = d := by omega
  rw [e, hd, List.set_append_right _ _ (by rw [List.length_replicate]; exact Nat.le_refl _), List.length_replicate, Nat.sub_self, List.replicate_succ, List.set_cons_zero, List.replicate_succ', List.append_assoc]
  rfl
theorem actsL_leS (m : Wk) (x l : Int) : (actsL m x l).length ≤ 41 := by
  unfold actsL
  rw [List.length_append]
  have h1 : (mem (nbK m.gates x l m.gates.length)).length ≤ 40 := by unfold mem memN; rw [List.length_map]; exact Nat.le_trans (List.length_filter_le _ _) (by simp)
  split
  · simp; omega
  · simp; omega
theorem bfE_costS {nx : Nat → List Nat} {E0 : List Bn} (h0 : ∀ e ∈ E0, e.2 = 0) : ∀ i, ∀ e ∈ bfE nx E0 i, e.2 ≤ i
  | 0, e, he => by have := h0 e he; omega
  | i + 1, e, he => by
    have ih := bfE_costS h0 (nx := nx) i
    change e ∈ (if i < (bfE nx E0 i).length then bExp nx (bfE nx E0 i) i else bfE nx E0 i) at he
    split at he
    · rename_i hi
      have hc := ih _ (bMem hi)
      have : ∀ (l : List Nat) (E : List Bn), (∀ e ∈ E, e.2 ≤ i + 1) → ∀ e ∈ l.foldl (bAdd (((bfE nx E0 i)[i]!).2 + 1)) E, e.2 ≤ i + 1 := by
        intro l
        induction l with
        | nil => intro E h; exact h
        | cons y l ihl =>
          intro E h
          refine ihl _ ?_
          unfold bAdd
          split
          · exact h
          · intro e he
            rw [List.mem_append] at he
            rcases he with he | he
            · exact h e he
            · rw [List.mem_singleton] at he; rw [he]; show _ + 1 ≤ _; omega
      exact this _ _ (fun e he => Nat.le_succ_of_le (ih e he)) e he
    · exact Nat.le_succ_of_le (ih e he)
theorem bf_boundS {m : Wk} (ok : WkOk m) {S : List Nat} {E : List Bn} {i j : Nat} (h : BOk (nxW m) S E i j) (hs : ∀ s ∈ S, ((s / 64 : Nat) : Int) < m.size) : ∀ e ∈ E, ((e.1 / 64 : Nat) : Int) < m.size := by
  intro e he
  obtain ⟨s, hss, hw⟩ := h.sd e he
  generalize e.2 = k at hw
  cases k with
  | zero => have hw : s = e.1 := hw; rw [← hw]; exact hs s hss
  | succ k => obtain ⟨z, -, hz⟩ := hw; exact nxW_bound ok hz
theorem nxW_atS {m : Wk} {x l : Nat} (hx : (x : Int) < m.size) (hl : l < 64) : nxW m (x * 64 + l) = (actsL m (x : Nat) (l : Nat)).map (fun a => wSt m x l a) := by
  unfold nxW
  rw [show (x * 64 + l) / 64 = x from by omega, show (x * 64 + l) % 64 = l from by omega, if_pos hx]
theorem id_ofS (s : Nat) : ∃ x l, s = x * 64 + l ∧ l < 64 ∧ s / 64 = x := ⟨s / 64, s % 64, by omega, Nat.mod_lt _ (by omega), rfl⟩
end Go.KD
namespace Go.Proofs.Ytmilpahggceemaa
open Go.RowKit Go.KD
attribute [local go_sem] later_cell later_frozen
theorem l4Id_c (x l s : Nat) (hs : s = x * 64 + l) (hx : x ≤ 12) (hl : l ≤ 64) (w : World) : Calls Try.prog 162 #[.int .i64 x, .int .i64 l] w fun e w' => e = .returned (.int .i64 (s : Int)) ∧ w = w' := by
  have h1 : (x : Int) ≤ 12 := by omega
  have h2 : (l : Int) ≤ 64 := by omega
  go_enter Try.func162, Try.ntmps162
  go_wp2
  go_ret
  exact ⟨ret_int (by omega), rfl⟩
set_option maxRecDepth 100000 in
set_option maxHeartbeats 16000000 in
theorem l8Spread_c (m : Wk) (ad ak : Option Addr) (cd ck : Nat) (x0 l0 n : Nat) (w : World) (hm : WkAt w (.agg #[.int .i64 m.size, .slice ad m.gates.length cd, .slice ak m.pulls.length ck]) m) (ok : WkOk m) (hx0 : (x0 : Int) < m.size) (hl0 : l0 < 64) (hn : n = m.pulls.length * 64) :
    Calls Try.prog 161 #[(.agg #[.int .i64 m.size, .slice ad m.gates.length cd, .slice ak m.pulls.length ck]), .int .i64 x0, .int .i64 l0, .bool false] w fun e w' => ∃ a c, e = .returned (.slice (some ⟨a, 0, none⟩) n c) ∧ IC w' (some ⟨a, 0, none⟩) (gridN n (bfF (nxW m) [((x0 * 64 + l0, 0) : Bn)])) ∧ Below w.heap.size w w' := by
  obtain ⟨i0, ji, jz0, jz1, jz2⟩ := info_parts infoI
  obtain ⟨E0, hE0⟩ : ∃ E0 : List Bn, E0 = [((x0 * 64 + l0, 0) : Bn)] := ⟨_, rfl⟩
  rw [← hE0]
  obtain ⟨s0, hs0⟩ : ∃ s0, s0 = x0 * 64 + l0 := ⟨_, rfl⟩
  rw [← hs0] at hE0
  obtain ⟨FF, hFF⟩ : ∃ FF, FF = bfF (nxW m) E0 := ⟨_, rfl⟩
  rw [← hFF]
  have HFFF := Lib.hid hFF
  have hs1 := ok.s1
  have hs2 := ok.s2
  have hnp := ok.np
  have hn768 : n ≤ 768 := by omega
  have hn64 : 64 ≤ n := by omega
  have hsn : m.size * 64 = (n : Int) := by omega
  have hid0 : s0 < n := by omega
  have HS0 := Lib.hid hs0
  have HSNW : Hid (∀ z : Nat, (z : Int) < m.size → z < 12 ∧ ∀ k : Nat, k < 64 → z * 64 + k < n) := fun z hz => ⟨by omega, fun k hk => by omega⟩
  have hw1 : IntKind.i64.wrap (m.size * 64) = (n : Int) := by rw [IntKind.wrap_i64]; omega
  have hmk : ∀ W : World, (Instr.makeSlice 24 (.int .i64 n) (.int .i64 n)).run Try.prog W = .ok (.slice (some ⟨W.heap.size, 0, none⟩) n n) (W.alloc (.cells (madeCells #[.int .i64 0] n) 3)) := fun W => run_make_row' 24 3 (.int .i64 0) 8 Try.underlying24 infoI rfl .i64 .i64 n (by omega) (by omega) W
  have HB0 : Hid (Below w.heap.size w (w.alloc (.cells #[.int .i64 m.size, .slice ad m.gates.length cd, .slice ak m.pulls.length ck] 36))) := (Below.refl _ _).alloc (Nat.le_refl _) _
  have HR0 : Hid (World.ownsRow ((w.alloc (.cells #[.int .i64 m.size, .slice ad m.gates.length cd, .slice ak m.pulls.length ck] 36)).alloc (.cells (madeCells #[.int .i64 0] n) 3)) (w.heap.size + 1) 3 1 (.slice (some ⟨w.heap.size + 1, 0, none⟩) n n) n (ints (iniN n 0))) := by
    rw [iniN_0]
    exact own_madeW (w.alloc (.cells #[.int .i64 m.size, .slice ad m.gates.length cd, .slice ak m.pulls.length ck] 36)) (by simp) (by simp) (by unfold maxLen; omega) (madeI n)
  have HBB0 : Hid (Below (w.heap.size + 1) (w.alloc (.cells #[.int .i64 m.size, .slice ad m.gates.length cd, .slice ak m.pulls.length ck] 36)) ((w.alloc (.cells #[.int .i64 m.size, .slice ad m.gates.length cd, .slice ak m.pulls.length ck] 36)).alloc (.cells (madeCells #[.int .i64 0] n) 3))) := (Below.refl _ _).alloc (by simp) _
  have HM := Lib.hid hm
  have HMW : Hid (∀ W, Below (w.heap.size + 1) (w.alloc (.cells #[.int .i64 m.size, .slice ad m.gates.length cd, .slice ak m.pulls.length ck] 36)) W → WkAt W (.agg #[.int .i64 m.size, .slice ad m.gates.length cd, .slice ak m.pulls.length ck]) m) := fun W hW => hm.later (below_boxW hW (by omega))
  have HBO : Hid (∀ i, BOk (nxW m) [s0] (bfE (nxW m) E0 i) i 0) := by rw [hE0]; exact bfE_ok (nxW_lt ok) (b_start (S := [s0]) (by simp) (fun s hs => by rw [List.mem_singleton] at hs; omega))
  have HCO : Hid (∀ i, ∀ e ∈ bfE (nxW m) E0 i, e.2 ≤ i) := bfE_costS (fun e he => by rw [hE0, List.mem_singleton] at he; rw [he])
  have HLS : Hid (∀ s ∈ [s0], ((s / 64 : Nat) : Int) < m.size) := fun s hs => by rw [List.mem_singleton] at hs; rw [hs, show s0 / 64 = x0 from by omega]; exact hx0
  have HE0 := Lib.hid hE0
  have OK := Lib.hid ok
  have hx012 : x0 ≤ 12 := by omega
  have hgi := gridN_snoc (n := n) (E := []) (y := s0) (c := 0) rfl hid0
  have HGI : Hid ((gridN n []).set s0 0 = gridN n E0) := by show _ = _; rw [hE0]; exact hgi
  have HID0 : Hid (ints (idsE E0) = [.int .i64 (s0 : Int)]) := by show _ = _; rw [hE0]; rfl
  have HEL0 : Hid (E0.length = 1) := by show _ = _; rw [hE0]; rfl
  clear hm ok hE0 hFF hn hnp hs0 hgi
  go_enter Try.func161, Try.ntmps161
  go_wp2
  go_loopw [10] (fun iv wr => ∃ k : Nat, iv = .int .i64 k ∧ k ≤ n ∧ Hid (World.ownsRow wr (w.heap.size + 1) 3 1 (.slice (some ⟨w.heap.size + 1, 0, none⟩) n n) n (ints (iniN n k))) ∧ Hid (Below (w.heap.size + 1) (w.alloc (.cells #[.int .i64 m.size, .slice ad m.gates.length cd, .slice ak m.pulls.length ck] 36)) wr)) (fun iv _ => n - (intOf iv).toNat)
  case atStart => exact ⟨0, rfl, Nat.zero_le _, HR0, HBB0⟩
  case round =>
    clear HR0 HBB0 HB0
    obtain ⟨wo, rfl⟩ : ∃ wo : World, wo = wr := ⟨_, rfl⟩
    obtain ⟨k, rfl, hk, HR, HB⟩ := hrel
    by_cases hlt : k < n
    · have hkI : (k : Int) < (n : Int) := by omega
      have c0 := own_intW HR.out k hlt (iniN_len hk)
      have f0 := (own_cell HR.out k (by omega)).2
      obtain ⟨ho3, hg3⟩ := own_store1 HR.out k (-1)
      rw [iniN_next hlt] at ho3
      have HR3 := Lib.hid ho3
      have HB3 : Hid (Below (w.heap.size + 1) (w.alloc (.cells #[.int .i64 m.size, .slice ad m.gates.length cd, .slice ak m.pulls.length ck] 36)) (wo.setCell ⟨w.heap.size + 1, k, none⟩ (.int .i64 (-1)))) := Below.setCell HB.out (Nat.le_refl _) _
      clear ho3 hg3
      go_wp2
      go_roundw
      case rel => exact ⟨k + 1, by go_num, by omega, HR3, HB3⟩
      case measure => simp [intOf]; omega
    · obtain rfl : n = k := by omega
      have HR1 : Hid (World.ownsRow wo (w.heap.size + 1) 3 1 (.slice (some ⟨w.heap.size + 1, 0, none⟩) n n) n (ints (gridN n []))) := by have := HR.out; rw [iniN_all] at this; exact this
      clear HR hlt
      have hzo : w.heap.size + 2 ≤ wo.heap.size := by have h1 := own_lt HR1.out; omega
      have HA : Hid (Below wo.heap.size wo (wo.alloc (.cells #[.int .i64 (s0 : Int)] 3))) := (Below.refl _ _).alloc (Nat.le_refl _) _
      have HR2 : Hid (World.ownsRow (wo.alloc (.cells #[.int .i64 (s0 : Int)] 3)) (w.heap.size + 1) 3 1 (.slice (some ⟨w.heap.size + 1, 0, none⟩) n n) n (ints (gridN n []))) := own_belowW HR1.out HA.out
      have hl0 := own_litW (lo := w.heap.size + 2) (heap_alloc_last wo (.cells #[.int .i64 (s0 : Int)] 3)) hzo
      obtain ⟨ho3, hg3⟩ := own_store1 HR2.out s0 0
      have hl3 := own_grownW hl0 hg3 (by omega)
      have c0 := own_intW HR2.out s0 hid0 (gridN_len _ _)
      have f0 := (own_cell HR2.out s0 (by omega)).2
      have HB2 : Hid (Below (w.heap.size + 1) (w.alloc (.cells #[.int .i64 m.size, .slice ad m.gates.length cd, .slice ak m.pulls.length ck] 36)) ((wo.alloc (.cells #[.int .i64 (s0 : Int)] 3)).setCell ⟨w.heap.size + 1, s0, none⟩ (.int .i64 0))) := Below.setCell (HB.out.trans (HA.out.mono (by omega))) (Nat.le_refl _) _
      obtain ⟨W3, hW3⟩ : ∃ W3, W3 = ((wo.alloc (.cells #[.int .i64 (s0 : Int)] 3)).setCell ⟨w.heap.size + 1, s0, none⟩ (.int .i64 0)) := ⟨_, rfl⟩
      rw [HGI.out] at ho3
      rw [← hW3] at ho3 hl3 HB2
      have HR3 : Hid (World.ownsRow W3 (w.heap.size + 1) 3 1 (.slice (some ⟨w.heap.size + 1, 0, none⟩) n n) n (ints (gridN n (bfE (nxW m) E0 0)))) := ho3
      have HL3 : Hid (World.ownsRow W3 (w.heap.size + 2) 3 1 (.slice (some ⟨wo.heap.size, 0, none⟩) (bfE (nxW m) E0 0).length 1) (bfE (nxW m) E0 0).length (ints (idsE (bfE (nxW m) E0 0)))) := by
        show W3.ownsRow (w.heap.size + 2) 3 1 (.slice (some ⟨wo.heap.size, 0, none⟩) E0.length 1) E0.length (ints (idsE E0))
        rw [HID0.out, HEL0.out]; exact hl3
      have HW3 := Lib.hid hW3
      have hidI : (s0 : Int) < (n : Int) := by omega
      clear HR1 HR2 HA hl0 ho3 hg3 hl3 hW3 HB
      go_wp2_with (go_at_call 162; refine (l4Id_c x0 l0 s0 HS0.out hx012 (by omega) _).mono ?_; rintro e w2 ⟨rfl, rfl⟩)
      rw [← HW3.out]
      clear c0 f0 HW3
      go_loopw [12, 11] (fun nv tv wr => ∃ i gl cl : Nat, nv = .int .i64 i ∧ tv = .slice (some ⟨gl, 0, none⟩) (bfE (nxW m) E0 i).length cl ∧ i ≤ (bfE (nxW m) E0 i).length ∧ w.heap.size + 2 ≤ wr.heap.size ∧ Hid (World.ownsRow wr (w.heap.size + 1) 3 1 (.slice (some ⟨w.heap.size + 1, 0, none⟩) n n) n (ints (gridN n (bfE (nxW m) E0 i)))) ∧ Hid (World.ownsRow wr (w.heap.size + 2) 3 1 (.slice (some ⟨gl, 0, none⟩) (bfE (nxW m) E0 i).length cl) (bfE (nxW m) E0 i).length (ints (idsE (bfE (nxW m) E0 i)))) ∧ Hid (Below (w.heap.size + 1) (w.alloc (.cells #[.int .i64 m.size, .slice ad m.gates.length cd, .slice ak m.pulls.length ck] 36)) wr)) (fun nv _ _ => 768 - (intOf nv).toNat)
      case atStart => exact ⟨0, wo.heap.size, 1, rfl, by rw [show (bfE (nxW m) E0 0).length = E0.length from rfl, HEL0.out], Nat.zero_le _, by have := own_lt HL3.out; omega, HR3, HL3, HB2⟩
      case round =>
        clear HR3 HL3 HB2
        obtain ⟨wo, rfl⟩ : ∃ wo : World, wo = wr := ⟨_, rfl⟩
        obtain ⟨i, gl, cl, rfl, rfl, hi, hzo, HR, HL, HB⟩ := hrel
        obtain ⟨E, hE⟩ : ∃ E, E = bfE (nxW m) E0 i := ⟨_, rfl⟩
        rw [← hE] at hi HR HL ⊢
        have HOE : Hid (BOk (nxW m) [s0] E i 0) := by rw [hE]; exact HBO.out i
        have hle := HOE.out.le
        have HE := Lib.hid hE
        clear hE
        by_cases hlt : i < E.length
        · have hiI : (i : Int) < (E.length : Int) := by omega
          obtain ⟨x, l, hs, hl, hx⟩ := id_ofS (E[i]!).1
          have hxs : (x : Int) < m.size := by rw [← hx]; exact bf_boundS OK.out HOE.out HLS.out _ (bMem hlt)
          obtain ⟨hx12, hxn⟩ := HSNW.out x hxs
          obtain ⟨si, hsi⟩ : ∃ si, si = x * 64 + l := ⟨_, rfl⟩
          rw [← hsi] at hs
          have hsin : si < n := by rw [hsi]; exact hxn l hl
          obtain ⟨c, hc⟩ : ∃ c, c = (E[i]!).2 := ⟨_, rfl⟩
          have hc768 : c ≤ 768 := by rw [hc]; have := HCO.out i _ (by rw [← HE.out]; exact bMem hlt); omega
          have HC := Lib.hid hc
          have HSE := Lib.hid hs
          have el := own_intW HL.out i hlt (idsE_len E)
          rw [idsE_at hlt, hs] at el
          have hgll := own_block_lo HL.out (g := gl) rfl
          have hglz := own_lt HL.out
          have HNXW : Hid (nxW m (E[i]!).1 = (actsL m (x : Nat) (l : Nat)).map (fun a => wSt m x l a)) := by show _ = _; rw [hs, hsi]; exact nxW_atS hxs hl
          obtain ⟨A, hA⟩ : ∃ A, A = actsL m (x : Nat) (l : Nat) := ⟨_, rfl⟩
          rw [← hA] at HNXW
          have HAA := Lib.hid hA
          have hAl : A.length ≤ 41 := by rw [hA]; exact actsL_leS m x l
          have hq1 : (si : Int) / 64 = (x : Int) := by omega
          have hq2 : (si : Int) % 64 = (l : Int) := by omega
          have hq3 : Int.tdiv (si : Int) 64 = (x : Int) := by rw [Int.tdiv_eq_ediv_of_nonneg (by omega)]; exact hq1
          have hq4 : Int.tmod (si : Int) 64 = (l : Int) := by rw [Int.tmod_eq_emod_of_nonneg (by omega)]; exact hq2
          have hsi768 : (si : Int) < 768 := by omega
          have hwx : IntKind.i64.wrap (x : Int) = (x : Int) := by rw [IntKind.wrap_i64]; omega
          have hwl : IntKind.i64.wrap (l : Int) = (l : Int) := by rw [IntKind.wrap_i64]; omega
          obtain ⟨b0, b1, b2, zb⟩ := box3W HB.out (by omega)
          have HSI := Lib.hid hsi
          clear hs hc hx hA hsi
          go_upto_region 11 with fail
          go_region_held3 (fun W => W.cell? ⟨gl, i, none⟩ = some (.int .i64 (si : Int)))
            (exact el)
            (fail)
          have hd0 : Below wo.heap.size wo wo.drew := (Below.refl _ _).drew
          have HR1 : Hid (World.ownsRow wo.drew (w.heap.size + 1) 3 1 (.slice (some ⟨w.heap.size + 1, 0, none⟩) n n) n (ints (gridN n E))) := own_belowW HR.out hd0
          have HL1 : Hid (World.ownsRow wo.drew (w.heap.size + 2) 3 1 (.slice (some ⟨gl, 0, none⟩) (E).length cl) (E).length (ints (idsE (E)))) := own_belowW HL.out hd0
          have HB1 : Hid (Below (w.heap.size + 1) (w.alloc (.cells #[.int .i64 m.size, .slice ad m.gates.length cd, .slice ak m.pulls.length ck] 36)) wo.drew) := HB.out.drew
          clear HR HL HB el hd0
          go_wp2_with (go_at_call 177; refine (l8ActsB_c _ m x l _ (HMW.out _ HB1.out) OK.out hxs hl).mono ?_; rintro e w2 ⟨u2, rfl, ⟨b8, off8, c8, rfl, hi8, hc8, hcm8, hb8⟩, hb2⟩; rw [← HAA.out] at hi8 hc8 ⊢)
          have HR2 : Hid (World.ownsRow w2 (w.heap.size + 1) 3 1 (.slice (some ⟨w.heap.size + 1, 0, none⟩) n n) n (ints (gridN n E))) := own_belowW HR1.out hb2
          have HL2 : Hid (World.ownsRow w2 (w.heap.size + 2) 3 1 (.slice (some ⟨gl, 0, none⟩) (E).length cl) (E).length (ints (idsE (E)))) := own_belowW HL1.out hb2
          have HB2 : Hid (Below (w.heap.size + 1) (w.alloc (.cells #[.int .i64 m.size, .slice ad m.gates.length cd, .slice ak m.pulls.length ck] 36)) w2) := HB1.out.trans (hb2.mono (by show _ ≤ wo.heap.size; omega))
          have HI2 := Lib.hid hi8
          have hz2 : wo.heap.size ≤ w2.heap.size := hb2.size
          have hb8' : wo.heap.size ≤ b8 := hb8
          have hb8z : 0 < A.length → b8 < w2.heap.size := fun h => by obtain ⟨b, o, he, hbs, -⟩ := hi8 0 h; cases he; exact hbs
          have HB8Z := Lib.hid hb8z
          clear HR1 HL1 HB1 hi8 hb2 hb8 b0 b1 b2 zb hb8z
          go_loopw [16, 11] (fun jv tv wr => ∃ j gl cl : Nat, jv = .int .i64 j ∧ j ≤ A.length ∧ tv = .slice (some ⟨gl, 0, none⟩) (bExpJ (nxW m) E i j).length cl ∧ (gl < wo.heap.size ∨ w2.heap.size ≤ gl) ∧ w2.heap.size ≤ wr.heap.size ∧ Hid (World.ownsRow wr (w.heap.size + 1) 3 1 (.slice (some ⟨w.heap.size + 1, 0, none⟩) n n) n (ints (gridN n (bExpJ (nxW m) E i j)))) ∧ Hid (World.ownsRow wr (w.heap.size + 2) 3 1 (.slice (some ⟨gl, 0, none⟩) (bExpJ (nxW m) E i j).length cl) (bExpJ (nxW m) E i j).length (ints (idsE (bExpJ (nxW m) E i j)))) ∧ Hid (Below (w.heap.size + 1) (w.alloc (.cells #[.int .i64 m.size, .slice ad m.gates.length cd, .slice ak m.pulls.length ck] 36)) wr) ∧ Hid (IC wr (some ⟨b8, off8, none⟩) A)) (fun jv _ _ => A.length - (intOf jv).toNat)
          case atStart => exact ⟨0, gl, cl, rfl, Nat.zero_le _, by simp [bExpJ], .inl hglz, Nat.le_refl _, by simpa [bExpJ] using HR2, by simpa [bExpJ] using HL2, HB2, HI2⟩
          case round =>
            clear HR2 HL2 HB2 HI2 hglz hgll
            obtain ⟨wi, rfl⟩ : ∃ wi : World, wi = wr := ⟨_, rfl⟩
            obtain ⟨j, gl, cl, rfl, hj, rfl, hgw, hzi, HR, HL, HB, HI⟩ := hrel
            have hlen : (nxW m (E[i]!).1).length = A.length := by rw [HNXW.out, List.length_map]
            have HOF : Hid (BOk (nxW m) [s0] (bExpJ (nxW m) E i j) i j) := HOE.out.exp (nxW_lt OK.out) hlt j (by omega)
            have hpre := bExpJ_pre (nxW m) E i j
            obtain ⟨F, hF⟩ : ∃ F, F = bExpJ (nxW m) E i j := ⟨_, rfl⟩
            rw [← hF] at hpre HOF HR HL ⊢
            have hFi : F[i]! = E[i]! := bPre_at hpre hlt
            have hFl : i < F.length := Nat.lt_of_lt_of_le hlt hpre.length_le
            have hF768 := HOF.out.le
            have hgll := own_block_lo HL.out (g := gl) rfl
            have hglz := own_lt HL.out
            have HFF := Lib.hid hF
            have HFI := Lib.hid hFi
            have HLEN := Lib.hid hlen
            clear hF hpre hFi hlen
            by_cases hlt2 : j < A.length
            · have hjI : (j : Int) < (A.length : Int) := by omega
              have hb8w := HB8Z.out (by omega)
              obtain ⟨b9, off9, av, ha9, HX, hbs9, e9⟩ := HI.out.at j hlt2
              cases ha9
              have hmem : av ∈ actsL m (x : Nat) (l : Nat) := by rw [← HAA.out, ← HX.out, getElem!_pos A j hlt2]; exact List.getElem_mem hlt2
              obtain ⟨y, k, hd, hy, hk, hst⟩ := do_nat OK.out hxs hl hmem
              obtain ⟨hy12, hyn⟩ := HSNW.out y hy
              obtain ⟨sj, hsj⟩ : ∃ sj, sj = y * 64 + k := ⟨_, rfl⟩
              have hsjn : sj < n := by rw [hsj]; exact hyn k hk
              have hat : (nxW m (E[i]!).1)[j]! = sj := by rw [HNXW.out, getElem!_pos _ j (by simpa using hlt2), List.getElem_map, hsj, ← hst, ← HX.out, getElem!_pos A j hlt2]
              have HSTEP : Hid (bExpJ (nxW m) E i (j + 1) = bAdd (c + 1) F sj) := by
                show _ = _
                rw [bExpJ_step (nxW m) E i (by rw [HLEN.out]; exact hlt2), ← HFF.out, hat, ← HC.out]
              have HD := Lib.hid hd
              have HSJ := Lib.hid hsj
              have el := own_intW HL.out i hFl (idsE_len F)
              rw [idsE_at hFl, HFI.out, HSE.out] at el
              have hFin : (si, c) ∈ F := by have := bMem hFl; rw [HFI.out] at this; rw [HC.out, ← HSE.out]; exact this
              have exl := own_intW HR.out si hsin (gridN_len _ _)
              rw [gridN_at n F hsin, bD_some HOF.out.nd hFin rfl] at exl
              have ec := own_intW HR.out sj hsjn (gridN_len _ _)
              rw [gridN_at n F hsjn] at ec
              have fc := (own_cell HR.out sj (by omega)).2
              have HFIN := Lib.hid hFin
              have hzw1 := own_lt HR.out
              have HCEL : Hid (∀ W, Below wi.heap.size wi W → W.cell? ⟨gl, i, none⟩ = some (.int .i64 (si : Int)) ∧ W.cell? ⟨w.heap.size + 1, si, none⟩ = some (.int .i64 (c : Int)) ∧ W.cell? ⟨w.heap.size + 1, sj, none⟩ = some (.int .i64 (bD F sj)) ∧ W.frozen? ⟨w.heap.size + 1, sj, none⟩ = false) := fun W hW => ⟨(hW.cell (p := ⟨gl, i, none⟩) hglz).trans el, (hW.cell (p := ⟨w.heap.size + 1, si, none⟩) hzw1).trans exl, (hW.cell (p := ⟨w.heap.size + 1, sj, none⟩) hzw1).trans ec, (hW.frozen (p := ⟨w.heap.size + 1, sj, none⟩) hzw1).trans fc⟩
              obtain ⟨b0, b1, b2, zb⟩ := box3W HB.out (by omega)
              have HS2 : Hid (∀ W, Below wi.heap.size wi W → W.cell? ⟨w.heap.size, 0, none⟩ = some (.int .i64 m.size) ∧ W.cell? ⟨w.heap.size, 1, none⟩ = some (.slice ad m.gates.length cd) ∧ W.cell? ⟨w.heap.size, 2, none⟩ = some (.slice ak m.pulls.length ck) ∧ W.cell? ⟨b8, off8 + j, none⟩ = some (.int .i64 av)) := fun W hW => ⟨(hW.cell (p := ⟨w.heap.size, 0, none⟩) zb).trans b0, (hW.cell (p := ⟨w.heap.size, 1, none⟩) zb).trans b1, (hW.cell (p := ⟨w.heap.size, 2, none⟩) zb).trans b2, (hW.cell (p := ⟨b8, off8 + j, none⟩) hbs9).trans e9⟩
              have hcw : IntKind.i64.wrap ((c : Int) + 1) = (c : Int) + 1 := by rw [IntKind.wrap_i64]; omega
              have hiF : (i : Int) < (F.length : Int) := by omega
              have hsiI : (si : Int) < (n : Int) := by omega
              have hsjI : (sj : Int) < (n : Int) := by omega
              have hAl2 : A.length ≤ c8 := hc8
              clear hmem hst hat hd hFin hsj el exl ec fc
              go_upto_region 16 with fail
              go_region_held3 (fun W => W.cell? ⟨w.heap.size, 0, none⟩ = some (.int .i64 m.size) ∧ W.cell? ⟨w.heap.size, 1, none⟩ = some (.slice ad m.gates.length cd) ∧ W.cell? ⟨w.heap.size, 2, none⟩ = some (.slice ak m.pulls.length ck) ∧ W.cell? ⟨b8, off8 + j, none⟩ = some (.int .i64 av))
                (first | exact HS2.out _ (by repeat (first | exact Below.refl _ _ | exact HB3.out | apply Below.drew | apply below_drewN | (refine Below.setCell ?_ (by first | omega | (simp; done) | (simp; omega) | (dsimp only; omega)) _) | (refine Below.alloc ?_ (by first | omega | (simp; done) | (simp; omega) | (dsimp only; omega)) _))))
                ((go_at_call 178; refine (l8Do_c _ m x l av _ (HMW.out _ (HB.out.trans (Below.mono (B := wi.heap.size) (by repeat (first | exact Below.refl _ _ | apply Below.drew | apply below_drewN | (refine Below.setCell ?_ (by first | omega | (simp; done) | (simp; omega) | (dsimp only; omega)) _) | (refine Below.alloc ?_ (by first | omega | (simp; done) | (simp; omega) | (dsimp only; omega)) _))) (by omega)))) OK.out hxs hl).mono ?_; rintro e w3 ⟨rfl, hb3⟩; rw [HD.out]; have HB3 : Hid (Below wi.heap.size wi w3) := Below.trans (by repeat (first | exact Below.refl _ _ | apply Below.drew | apply below_drewN | (refine Below.setCell ?_ (by first | omega | (simp; done) | (simp; omega) | (dsimp only; omega)) _) | (refine Below.alloc ?_ (by first | omega | (simp; done) | (simp; omega) | (dsimp only; omega)) _))) (hb3.mono (by first | exact Nat.le_refl _ | (simp; done) | (simp; omega))); clear hb3))
              all_goals
                obtain ⟨el, exl, ec, fc⟩ := HCEL.out w3 HB3.out
                have hz3 := HB3.out.size
                have HR3 : Hid (World.ownsRow w3 (w.heap.size + 1) 3 1 (.slice (some ⟨w.heap.size + 1, 0, none⟩) n n) n (ints (gridN n F))) := own_belowW HR.out HB3.out
                have HL3 : Hid (World.ownsRow w3 (w.heap.size + 2) 3 1 (.slice (some ⟨gl, 0, none⟩) (F).length cl) (F).length (ints (idsE (F)))) := own_belowW HL.out HB3.out
                have HBL3 : Hid (Below (w.heap.size + 1) (w.alloc (.cells #[.int .i64 m.size, .slice ad m.gates.length cd, .slice ak m.pulls.length ck] 36)) w3) := HB.out.trans (HB3.out.mono (by omega))
                have HI3 : Hid (IC w3 (some ⟨b8, off8, none⟩) A) := HI.out.later HB3.out
                clear HR HL HB HI HCEL HS2 e9 b0 b1 b2 HB3
                cases hany : F.any (fun e => e.1 == sj)
                case true =>
                  obtain ⟨e', he', hee⟩ := List.any_eq_true.1 hany
                  have hee : e'.1 = sj := by simpa using hee
                  have hbe := bD_some HOF.out.nd he' hee
                  obtain ⟨ai, hai, hae⟩ := bIdx he'
                  have hcle : e'.2 ≤ c + 1 := by have := HOF.out.hi hFl ai hai; rw [hae, HFI.out, ← HC.out] at this; exact this
                  obtain ⟨c', hc'⟩ : ∃ c', c' = e'.2 := ⟨_, rfl⟩
                  rw [hbe, ← hc'] at ec
                  rw [← hc'] at hcle
                  have hd1 : decide ((c' : Int) < 0) = false := by simp
                  have hd2 : decide ((c : Int) + 1 < (c' : Int)) = false := by simp; omega
                  have HJN : Hid (bExpJ (nxW m) E i (j + 1) = F) := by show _ = _; rw [HSTEP.out]; exact bAdd_yes hany
                  clear hany he' hee hbe hai hae hc'
                  go_wp2_with (go_at_call 162; refine (l4Id_c y k sj HSJ.out (by omega) (by omega) _).mono ?_; rintro e w4 ⟨rfl, rfl⟩)
                  go_roundw
                  case rel => exact ⟨j + 1, gl, cl, by go_num, by omega, by rw [HJN.out], hgw, by omega, by rw [HJN.out]; exact HR3, by rw [HJN.out]; exact HL3, HBL3, HI3⟩
                  case measure => simp [intOf]; omega
                case false =>
                  have HJN : Hid (bExpJ (nxW m) E i (j + 1) = F ++ [(sj, c + 1)]) := by show _ = _; rw [HSTEP.out]; exact bAdd_no hany
                  rw [bD_none hany] at ec
                  obtain ⟨ho4, hg4⟩ := own_store1 HR3.out sj ((c + 1 : Nat) : Int)
                  rw [gridN_snoc hany hsjn] at ho4
                  have hl4 := own_grownW HL3.out hg4 (by omega)
                  have hi4 := ic_grownW HI3.out hg4 (by omega)
                  have hb4 : Hid (Below (w.heap.size + 1) (w.alloc (.cells #[.int .i64 m.size, .slice ad m.gates.length cd, .slice ak m.pulls.length ck] 36)) (w3.setCell ⟨w.heap.size + 1, sj, none⟩ (.int .i64 ((c + 1 : Nat) : Int)))) := Below.setCell HBL3.out (Nat.le_refl _) _
                  obtain ⟨w4, hw4⟩ : ∃ w4, w4 = (w3.setCell ⟨w.heap.size + 1, sj, none⟩ (.int .i64 ((c + 1 : Nat) : Int))) := ⟨_, rfl⟩
                  have hz4 : w3.heap.size ≤ w4.heap.size := by rw [hw4]; simp
                  have hz4' : w4.heap.size ≤ w3.heap.size := by rw [hw4]; simp
                  have hcc : ((c + 1 : Nat) : Int) = (c : Int) + 1 := by omega
                  rw [← hw4] at ho4 hl4 hi4 hb4
                  rw [hcc] at hw4
                  have HR4 : Hid (World.ownsRow w4 (w.heap.size + 1) 3 1 (.slice (some ⟨w.heap.size + 1, 0, none⟩) n n) n (ints (gridN n (F ++ [(sj, c + 1)])))) := ho4
                  have HL4 : Hid (World.ownsRow w4 (w.heap.size + 2) 3 1 (.slice (some ⟨gl, 0, none⟩) (F).length cl) (F).length (ints (idsE (F)))) := hl4
                  have HI4 := Lib.hid hi4
                  have HW4 := Lib.hid hw4
                  have HIS : Hid (ints (idsE (F ++ [(sj, c + 1)])) = ints (idsE F) ++ [.int .i64 (sj : Int)]) := by show _ = _; rw [idsE_snoc, ints_snoc]
                  clear hany ho4 hg4 hl4 hi4 hw4 hcc HR3 HL3 HI3 HBL3
                  go_upto_region 22 with (go_at_call 162; refine (l4Id_c y k sj HSJ.out (by omega) (by omega) _).mono ?_; rintro e w4 ⟨rfl, rfl⟩)
                  go_upto_region 23 with fail
                  rw [← HW4.out]
                  clear ec fc el exl HW4
                  have HLA : Hid (World.ownsRow (w4.alloc (.cells #[.int .i64 (sj : Int)] 3)) (w.heap.size + 2) 3 1 (.slice (some ⟨gl, 0, none⟩) F.length cl) F.length (ints (idsE F))) := own_belowW HL4.out ((Below.refl _ _).alloc (Nat.le_refl _) _)
                  go_wp2_with (at_builtin; refine wpList_append_lies _ rfl _ _ 24 rfl (w.heap.size + 2) 3 i0 (.int .i64 0) 1 8 Try.underlying24 ji jz0 jz1 jz2 rfl (by decide) (.slice (some ⟨gl, 0, none⟩) F.length cl) _ _ rfl HLA.out ⟨w4.heap.size, 0, none⟩ 1 1 [.int .i64 (sj : Int)] rfl rfl ?_ ?_ (by omega) ?_ ?_ ?_ (w4.heap.size + 1) ?_ ?_; (exact cell_one_new _ _ _); (simp [Value.oneCell']); (unfold maxLen; omega); omega; (simp; omega); (simp); intro g5 c5 w5 hown5 hgrow5 hat5 hlt5)
                  have hA : Below w4.heap.size w4 (w4.alloc (.cells #[.int .i64 (sj : Int)] 3)) := (Below.refl _ _).alloc (Nat.le_refl _) _
                  have hg5 : g5 = gl ∨ g5 = w4.heap.size + 1 := by rcases hat5 with h | h <;> first | exact .inr h | (left; symm; simpa [Value.ownBlock] using h)
                  have hgr5 : World.grownBy (w4.alloc (.cells #[.int .i64 (sj : Int)] 3)) w5 (some gl) := hgrow5
                  have HR5 : Hid (World.ownsRow w5 (w.heap.size + 1) 3 1 (.slice (some ⟨w.heap.size + 1, 0, none⟩) n n) n (ints (gridN n (F ++ [(sj, c + 1)])))) := own_grownW (own_belowW HR4.out hA) hgr5 (by omega)
                  have HL5 : Hid (World.ownsRow w5 (w.heap.size + 2) 3 1 (.slice (some ⟨g5, 0, none⟩) (F.length + 1) c5) (F.length + 1) (ints (idsE (F ++ [(sj, c + 1)])))) := by rw [HIS.out]; exact hown5
                  have HI5 : Hid (IC w5 (some ⟨b8, off8, none⟩) A) := ic_grownW (HI4.out.later hA) hgr5 (by omega)
                  have HB5 : Hid (Below (w.heap.size + 1) (w.alloc (.cells #[.int .i64 m.size, .slice ad m.gates.length cd, .slice ak m.pulls.length ck] 36)) w5) := Below.grown (hb4.out.trans (hA.mono (by omega))) hgr5 (by have := hb4.out.size; simp at this; simp; omega) (fun b hb => by cases hb; omega)
                  have hz5 : w4.heap.size + 1 ≤ w5.heap.size := by have := hgr5.size; simpa using this
                  clear hown5 hgrow5 hat5 hgr5 HR4 HL4 HI4 HLA
                  go_wp2
                  go_roundw
                  case rel => exact ⟨j + 1, g5, c5, by go_num, by omega, by rw [HJN.out]; simp, by omega, by omega, by rw [HJN.out]; exact HR5, by rw [HJN.out]; simpa using HL5, HB5, HI5⟩
                  case measure => simp [intOf]; omega
            · obtain rfl : j = A.length := by omega
              have HNEXT : Hid (bfE (nxW m) E0 (i + 1) = F) := by
                show _ = _
                rw [bfE_next (by rw [← HE.out]; exact hlt), ← HE.out, HFF.out, ← HLEN.out]; rfl
              have HI1 : Hid (i + 1 ≤ F.length) := hFl
              go_wp2
              go_roundw
              case rel => exact ⟨i + 1, gl, cl, by go_num, by rw [HNEXT.out], by rw [HNEXT.out]; exact HI1.out, by omega, by rw [HNEXT.out]; exact HR, by rw [HNEXT.out]; exact HL, HB⟩
              case measure => simp [intOf]; omega
        · obtain rfl : i = E.length := by omega
          have HFIN : Hid (FF = E) := by
            show _ = _
            rw [HFFF.out, bfF_eq (i := E.length) (by omega) (by rw [← HE.out]; exact Nat.le_refl _), ← HE.out]
          have HIF : Hid (IC wo (some ⟨w.heap.size + 1, 0, none⟩) (gridN n FF)) := by
            rw [HFIN.out]
            exact ic_of' (Own.of HR.out) (gridN_len _ _).symm
          have HBF : Hid (Below w.heap.size w wo) := below_boxW HB.out (by omega)
          go_wp2
          go_ret
          exact ⟨_, _, rfl, HIF.out, HBF.out⟩
end Go.Proofs.Ytmilpahggceemaa

namespace Go.KD
open Go.RowKit
/-- A list that a draw gives, as it reads behind further draws. -/
def PlanQ (c n k : Nat) (w : World) (e : Ending) (w' : World) : Prop := ∃ a cp, ∃ L : List Int, e = .returned (.slice a L.length cp) ∧ (∀ w'', Chg 0 w.heap.size w' w'' → IC w'' a L) ∧ L.length ≤ k ∧ (∀ x ∈ L, wfI x) ∧ CuW c n w w'
theorem box_at {w wX : World} {T : TypeId} {a b d : Value} {c n : Nat} (h : CuW c n (w.alloc (.cells #[a, b, d] T)) wX) (hc : c < w.heap.size) : wX.cell? ⟨w.heap.size, 0, none⟩ = some a ∧ wX.cell? ⟨w.heap.size, 1, none⟩ = some b ∧ wX.cell? ⟨w.heap.size, 2, none⟩ = some d ∧ w.heap.size < wX.heap.size := by
  obtain ⟨q0, q1, q2, -, -, -, q6⟩ := res_facts rfl h.ch hc
  exact ⟨q0, q1, q2, q6⟩
theorem CuW.box {w wX : World} {o : Obj} {c n n0 : Nat} (h : CuW c n (w.alloc o) wX) (h0 : Cu c n0 w) : CuW c n w wX := ((CuW.refl h0).alloc o).trans h
theorem own_icC {w w' : World} {base lo k : Nat} {e : TypeId} {a : Option Addr} {cp : Nat} {L : List Int} (h : w.ownsRow base e 1 (.slice a L.length cp) L.length (ints L)) (hc : lo ≤ base) (hch : Chg 0 lo w w') : IC w' a L := ic_of' ((Own.of h).chg hch (.inr hc)) rfl
theorem ic_lit0 {w w' : World} {lo k : Nat} {e : TypeId} {cs : Array Value} {l : List Int} (hcs : cs.toList = ints l) (hn : k = l.length) (hm : k ≤ 100) (hc : lo ≤ w.heap.size) (h : Chg 0 lo (w.alloc (.cells cs e)) w') : IC w' (some ⟨w.heap.size, 0, none⟩) l := by
  subst hn
  have hl := World.ownsRow_lit (base := w.heap.size) (e := e) (size := 1) w cs l.length (Nat.le_refl _) (by unfold maxLen; omega) (by have := congrArg List.length hcs; simp at this; omega)
  rw [hcs] at hl
  exact ic_of ((Own.of hl).chg h (.inr (by omega)))
theorem draw_start {w : World} {a : Option Addr} {n cap : Nat} {o : Obj} {T : TypeId} (hb : BC w a n) (hn : n ≤ 65536) : Cu (w.heap.size + 1) 0 ((w.alloc o).alloc (.cells #[.slice a n cap, .int .i64 0, .int .u64 0] T)) := by
  have h := cu_start (cap := cap) (T := T) (hb.later ((Below.refl _ _).alloc (Nat.le_refl _) o)) hn
  rw [show (w.alloc o).heap.size = w.heap.size + 1 from by simp] at h
  exact h
theorem draw_res {w W : World} {n : Nat} {x0 x1 x2 : Value} {T : TypeId} {o : Obj} (h : CuW (w.heap.size + 1) n ((w.alloc (.cells #[x0, x1, x2] T)).alloc o) W) : W.cell? ⟨w.heap.size, 0, none⟩ = some x0 ∧ W.cell? ⟨w.heap.size, 1, none⟩ = some x1 ∧ W.cell? ⟨w.heap.size, 2, none⟩ = some x2 ∧ W.frozen? ⟨w.heap.size, 0, none⟩ = false ∧ W.frozen? ⟨w.heap.size, 1, none⟩ = false ∧ W.frozen? ⟨w.heap.size, 2, none⟩ = false ∧ w.heap.size < W.heap.size := by
  have hz : w.heap.size < ((w.alloc (.cells #[x0, x1, x2] T)).alloc o).heap.size := by simp; omega
  have hne : w.heap.size < w.heap.size + 1 ∨ w.heap.size + 1 + 1 ≤ w.heap.size := .inl (by omega)
  refine ⟨?_, ?_, ?_, ?_, ?_, ?_, Nat.lt_of_lt_of_le hz h.ch.size⟩
  · rw [h.ch.cell (p := ⟨w.heap.size, 0, none⟩) hz hne]; simp [go_sem]
  · rw [h.ch.cell (p := ⟨w.heap.size, 1, none⟩) hz hne]; simp [go_sem]
  · rw [h.ch.cell (p := ⟨w.heap.size, 2, none⟩) hz hne]; simp [go_sem]
  · rw [chg_frozen h.ch hz hne]; simp [go_sem]
  · rw [chg_frozen h.ch hz hne]; simp [go_sem]
  · rw [chg_frozen h.ch hz hne]; simp [go_sem]
theorem draw_below {w W : World} {n : Nat} {o o' : Obj} (h : CuW (w.heap.size + 1) n ((w.alloc o').alloc o) W) : Below w.heap.size w W :=
  (((Below.refl _ _).alloc (Nat.le_refl _) o').alloc (by simp) o).trans (h.ch.below (by omega) (by simp; omega))
theorem chg_set3 {W : World} {r hi : Nat} (hr : r < hi) (x0 x1 x2 : Value) : Chg 0 hi W (((W.setCell ⟨r, 0, none⟩ x0).setCell ⟨r, 1, none⟩ x1).setCell ⟨r, 2, none⟩ x2) :=
  (((Chg.refl _ _ _).setCell (Nat.zero_le _) hr _).setCell (Nat.zero_le _) hr _).setCell (Nat.zero_le _) hr _
theorem below_set3 {w W : World} {r : Nat} (h : Below w.heap.size w W) (hr : w.heap.size ≤ r) (x0 x1 x2 : Value) : Below w.heap.size w (((W.setCell ⟨r, 0, none⟩ x0).setCell ⟨r, 1, none⟩ x1).setCell ⟨r, 2, none⟩ x2) :=
  Below.setCell (Below.setCell (Below.setCell h hr _) hr _) hr _
theorem ic_chgC {w w' : World} {c b off : Nat} {l : List Int} (h : IC w (some ⟨b, off, none⟩) l) (hb : c < b) (hch : Chg c (c + 1) w w') : IC w' (some ⟨b, off, none⟩) l := by
  intro k hk
  obtain ⟨b', off', e, hbs, hc⟩ := h k hk
  cases e
  exact ⟨b, off, rfl, Nat.lt_of_lt_of_le hbs hch.size, by rw [hch.cell (p := ⟨b, off + k, none⟩) hbs (.inr (by show c + 1 ≤ b; omega))]; exact hc⟩
end Go.KD
namespace Go.Proofs.Ytmilpahggceemaa
open Go.RowKit Go.KD
attribute [local go_sem] later_cell later_frozen
set_option maxRecDepth 100000 in
set_option maxHeartbeats 4000000 in
theorem nodeIn_c (c n : Nat) (hn : n ≤ 600000) (m : Wk) (s1 s2 : Value) (h1 : ∃ a k cp, s1 = .slice a k cp) (h2 : ∃ a k cp, s2 = .slice a k cp) (hs : 0 ≤ m.size ∧ m.size ≤ 13) (w : World) (h : Cu c n w) : Calls Try.prog 157 #[.pointer (some ⟨c, 0, none⟩), .agg #[.int .i64 m.size, s1, s2]] w (SomeI c (n + 4) w) := by
  obtain ⟨a1, k1, cp1, rfl⟩ := h1
  obtain ⟨a2, k2, cp2, rfl⟩ := h2
  have HC := Lib.hid h
  have hcz := h.lt
  clear h
  obtain ⟨hs0, hs1⟩ := hs
  go_enter Try.func157, Try.ntmps157
  go_wp2_with fail
  refine (one_c c n 30 (by omega) (by omega) (by omega) _ ((CuW.refl HC.out).alloc _).cu).mono ?_
  rintro e w1 ⟨b, rfl, hc1, hu1⟩
  have HW1 : Hid (CuW c (n + 2) (w.alloc (.cells #[.int .i64 m.size, .slice a1 k1 cp1, .slice a2 k2 cp2] 36)) w1) := ⟨hc1, hu1⟩
  obtain ⟨q0, q1, q2, q3⟩ := box_at HW1.out hcz
  have hcz1 := hu1.lt
  clear hc1 hu1
  cases b
  · obtain ⟨k, hk, hk1, hk12⟩ : ∃ k : Nat, max (min m.size 12) 1 = (k : Int) ∧ 1 ≤ k ∧ k ≤ 12 := ⟨(max (min m.size 12) 1).toNat, by omega, by omega, by omega⟩
    go_wp2_with (first | (go_at_call 267; (with_reducible refine (l1Least_c _ _ _).mono ?_); rintro e w2 ⟨rfl, rfl⟩) | (go_at_call 268; (with_reducible refine (l1Most_c _ _ _).mono ?_); rintro e w2 ⟨rfl, rfl⟩))
    refine (pick_c c (n + 2) k (by omega) (by omega) (by omega) _ HW1.out.cu).mono ?_
    rintro e w2 ⟨r, rfl, hr, hc2, hu2⟩
    have HW2 : Hid (CuW c (n + 4) (w.alloc (.cells #[.int .i64 m.size, .slice a1 k1 cp1, .slice a2 k2 cp2] 36)) w2) := HW1.out.trans ⟨hc2, hu2⟩
    clear hc2 hu2
    go_wp2_with fail
    go_ret
    exact ⟨(r : Int), rfl, wfI_small (by omega) (by omega), HW2.out.box HC.out⟩
  · go_wp2_with fail
    refine (among_c c (n + 2) 3 3 _ [-1, m.size, 4611686018427387904] rfl (by omega) (by omega) (by omega) _ (HW1.out.alloc _).cu (fun w' hc => ic_litC rfl rfl (by simp) hcz1 hc rfl)).mono ?_
    rintro e w2 ⟨x, rfl, hx, hc2, hu2⟩
    have hxw : wfI x := by
      simp at hx
      rcases hx with rfl | rfl | rfl
      · exact wfI_small (by decide) (by decide)
      · exact wfI_small (by omega) (by omega)
      · exact wfI_small (by decide) (by decide)
    have HW2 : Hid (CuW c (n + 4) (w.alloc (.cells #[.int .i64 m.size, .slice a1 k1 cp1, .slice a2 k2 cp2] 36)) w2) := (HW1.out.alloc _).trans ⟨hc2, hu2⟩
    clear hx hc2 hu2
    go_wp2_with fail
    go_ret
    exact ⟨x, rfl, hxw, HW2.out.box HC.out⟩
set_option maxRecDepth 100000 in
set_option maxHeartbeats 8000000 in
theorem planFor_c (c n : Nat) (hn : n ≤ 600000) (v : Value) (m : Wk) (hs : 0 ≤ m.size ∧ m.size ≤ 13) (w : World) (h : Cu c n w) (hm : ∀ w'', Chg c (c + 1) w w'' → WkAt w'' v m) : Calls Try.prog 265 #[.pointer (some ⟨c, 0, none⟩), v] w (PlanQ c (n + 140) 62 w) := by
  obtain ⟨i0, hi, hz0, hz1, hz2⟩ := info_parts infoI
  obtain ⟨⟨ad, cd, ak, ck, rfl, -, -⟩, -, -⟩ := hm w (Chg.refl _ _ _)
  have HM := Lib.hid hm
  have HC := Lib.hid h
  have hcz := h.lt
  clear h hm
  obtain ⟨hs0, hs1⟩ := hs
  have HWA : Hid (CuW c n (w.alloc (.cells #[.int .i64 m.size, .slice ad m.gates.length cd, .slice ak m.pulls.length ck] 36)) ((w.alloc (.cells #[.int .i64 m.size, .slice ad m.gates.length cd, .slice ak m.pulls.length ck] 36)).alloc (.cells #[] 3))) := (CuW.refl (((CuW.refl HC.out).alloc _).cu)).alloc _
  have HR0 : Hid (((w.alloc (.cells #[.int .i64 m.size, .slice ad m.gates.length cd, .slice ak m.pulls.length ck] 36)).alloc (.cells #[] 3)).ownsRow (w.heap.size + 1) 3 1 (.slice (some ⟨w.heap.size + 1, 0, none⟩) 0 0) 0 (ints [])) := by
    have h := World.ownsRow_lit (base := w.heap.size + 1) (e := 3) (size := 1) (w.alloc (.cells #[.int .i64 m.size, .slice ad m.gates.length cd, .slice ak m.pulls.length ck] 36)) #[] 0 (by simp) (by unfold maxLen; omega) rfl
    rw [show ((w.alloc (.cells #[.int .i64 m.size, .slice ad m.gates.length cd, .slice ak m.pulls.length ck] 36))).heap.size = w.heap.size + 1 from by simp] at h
    exact h
  go_enter Try.func265, Try.ntmps265
  go_wp2_with fail
  cases hB : worksB m
  · refine (l8Works_c _ m _ (HM.out _ (HWA.out.box HC.out).ch)).mono ?_
    rintro e w1 ⟨rfl, hb1⟩
    rw [hB]
    have HW1 : Hid (CuW c n w w1) := (HWA.out.box HC.out).below hb1 (Nat.le_refl _)
    have hcz1 := HW1.out.cu.lt
    clear hb1 hB
    go_wp2_with fail
    go_ret
    exact ⟨_, _, [-1], rfl, fun w'' hch => ic_lit0 rfl rfl (by simp) HW1.out.ch.size hch, by simp, fun x hx => (by simp at hx; rw [hx]; exact wfI_small (by decide) (by decide)), (HW1.out.alloc _).mono (by omega)⟩
  · have OK := Lib.hid (worksB_true.1 hB)
    refine (l8Works_c _ m _ (HM.out _ (HWA.out.box HC.out).ch)).mono ?_
    rintro e w1 ⟨rfl, hb1⟩
    rw [hB]
    have HW1 : Hid (CuW c n (w.alloc (.cells #[.int .i64 m.size, .slice ad m.gates.length cd, .slice ak m.pulls.length ck] 36)) w1) := HWA.out.below hb1 (Nat.le_refl _)
    have HR1 := Lib.hid (own_belowW' HR0.out hb1)
    have hcz1 := HW1.out.cu.lt
    clear hb1 hB HWA HR0
    go_wp2_with fail
    refine (among_c c n 6 6 _ [4, 6, 2, 0, 10, 61] rfl (by omega) (by omega) (by omega) _ (HW1.out.alloc _).cu (fun w' hc => ic_litC rfl rfl (by simp) hcz1 hc rfl)).mono ?_
    rintro e w2 ⟨x, rfl, hx, hc2, hu2⟩
    obtain ⟨j, rfl, hj⟩ : ∃ j : Nat, x = j ∧ j ≤ 61 := by simp at hx; exact ⟨x.toNat, by omega, by omega⟩
    have HW2 : Hid (CuW c (n + 2) (w.alloc (.cells #[.int .i64 m.size, .slice ad m.gates.length cd, .slice ak m.pulls.length ck] 36)) w2) := (HW1.out.alloc _).trans ⟨hc2, hu2⟩
    have HR2 := Lib.hid (own_chgC (own_belowW' HR1.out ((Below.refl _ _).alloc (Nat.le_refl _) _)) hc2 (by omega))
    have hsz1 : (0 : Int) < m.size := by have := OK.out.s1; omega
    clear hx hc2 hu2 HW1 HR1
    go_wp2_with fail
    go_loopw [5, 6, 7, 8] (fun s xv lv jv wr => ∃ j xn ln : Nat, ∃ L : List Int, xv = .int .i64 xn ∧ lv = .int .i64 ln ∧ jv = .int .i64 j ∧ j ≤ 61 ∧ L.length ≤ 61 - j ∧ (xn : Int) < m.size ∧ ln < 64 ∧ Hid (wr.ownsRow (w.heap.size + 1) 3 1 s L.length (ints L)) ∧ Hid (∀ x ∈ L, wfI x) ∧ Hid (CuW c (n + 130 - 2 * j) (w.alloc (.cells #[.int .i64 m.size, .slice ad m.gates.length cd, .slice ak m.pulls.length ck] 36)) wr)) (fun _ _ _ jv _ => (intOf jv).toNat)
    case atStart => exact ⟨j, 0, 0, [], rfl, rfl, rfl, hj, Nat.zero_le _, hsz1, by omega, HR2, fun x hx => (by cases hx), HW2.out.mono (by omega)⟩
    case round =>
      clear HW2 HR2 hj
      obtain ⟨wi, rfl⟩ : ∃ wi : World, wi = wr := ⟨_, rfl⟩
      obtain ⟨j, xn, ln, L, rfl, rfl, rfl, hj, hL, hx, hl, HR, HL, HW⟩ := hrel
      by_cases h0 : 0 < j
      · have h0I : (0 : Int) < (j : Int) := by omega
        obtain ⟨q0, q1, q2, q3⟩ := box_at HW.out hcz
        obtain ⟨A, hA⟩ : ∃ A, A = actsL m xn ln := ⟨_, rfl⟩
        have HA := Lib.hid hA
        clear hA
        go_wp2_with fail
        refine (l8ActsB_c _ m xn ln _ (HM.out _ (HW.out.box HC.out).ch) OK.out hx hl).mono ?_
        rw [← HA.out]
        rintro e w3 ⟨u3, rfl, ⟨b8, off8, c8, rfl, hi8, hc8, hcm8, hb8⟩, hb3⟩
        have hbc : c < b8 := Nat.lt_of_lt_of_le HW.out.cu.lt hb8
        have HI3 := Lib.hid hi8
        have HW3 := Lib.hid (HW.out.below hb3 (Nat.le_refl _))
        have HR3 := Lib.hid (own_belowW' HR.out hb3)
        clear hi8 hb3 hb8 q0 q1 q2 q3 HW HR
        by_cases hA0 : A.length = 0
        · have ht : ((A.length : Int) == 0) = true := by simp [hA0]
          clear hA0
          go_upto_region 12 with fail
          clear ht h0I
          obtain ⟨wi, rfl⟩ : ∃ wi : World, wi = w3 := ⟨_, rfl⟩
          have HR := Lib.hid HR3.out
          have HW := Lib.hid (HW3.out.mono (n' := n + 130) (by omega))
          clear HR3 HW3

          obtain ⟨aL, cL, rfl⟩ := own_slice HR.out
          by_cases hl0 : L.length = 0
          · have hlf : ¬ ((0 : Int) < (L.length : Int)) := by omega
            clear hl0
            go_wp2_with fail
            go_ret
            exact ⟨aL, cL, L, rfl, fun w'' hch => own_icC (k := 0) HR.out (by omega) hch, by omega, HL.out, HW.out.box HC.out |>.mono (by omega)⟩
          · have hlf : (0 : Int) < (L.length : Int) := by omega
            go_wp2_with fail
            refine (one_c c (n + 130) 12 (by omega) (by omega) (by omega) _ HW.out.cu).mono ?_
            rintro e w8 ⟨b8, rfl, hc8, hu8⟩
            have HW8 := Lib.hid (HW.out.trans ⟨hc8, hu8⟩)
            have HR8 := Lib.hid (own_chgC HR.out hc8 (by omega))
            have HC8 : Hid (c < w8.heap.size) := hu8.lt
            clear hc8 hu8 HW HR
            cases b8
            · go_wp2_with fail
              go_ret
              exact ⟨aL, cL, L, rfl, fun w'' hch => own_icC (k := 0) HR8.out (by omega) hch, by omega, HL.out, HW8.out.box HC.out |>.mono (by omega)⟩
            · obtain ⟨gL, cL', hvL, -, -⟩ := own_someS HR8.out (by omega)
              cases hvL
              obtain ⟨q0, q1, q2, q3⟩ := box_at HW8.out hcz
              go_upto_region 13 with fail
              clear hlf
              go_region_held3 (fun W => W.cell? ⟨w.heap.size, 0, none⟩ = some (.int .i64 m.size))
                (first
                  | with_reducible exact (box_at HW8.out.drew hcz).1
                  | with_reducible exact (box_at (HW8.out.alloc _).drew hcz).1
                  | with_reducible exact (box_at HW9.out hcz).1
                  | with_reducible exact (box_at (HW9.out.alloc _) hcz).1
                  | with_reducible exact (box_at HWA.out hcz).1
                  | with_reducible exact (set_ne _ _ (by omega)).trans (box_at HWA.out hcz).1)
                (first
                  | (go_at_call 144; (with_reducible refine (pick_c c (n + 130 + 2) L.length (by omega) (by omega) (by omega) _ HW8.out.drew.cu).mono ?_); rintro e w9 ⟨r9, rfl, hr9, hc9, hu9⟩; have HW9 := Lib.hid (HW8.out.drew.trans ⟨hc9, hu9⟩); have HR9 := Lib.hid (own_chgC (own_belowW' HR8.out (Below.refl _ _).drew) hc9 (by omega)); have HC9 : Hid (c < w9.heap.size) := hu9.lt; have hr9I : (r9 : Int) < (L.length : Int) := (by omega); have hr90 : (0 : Int) ≤ (r9 : Int) := (by omega); clear hc9 hu9)
                  | (go_at_call 144; (with_reducible refine (pick_c c (n + 130 + 2) L.length (by omega) (by omega) (by omega) _ (HW8.out.alloc _).drew.cu).mono ?_); rintro e w9 ⟨r9, rfl, hr9, hc9, hu9⟩; have HW9 := Lib.hid ((HW8.out.alloc _).drew.trans ⟨hc9, hu9⟩); have HR9 := Lib.hid (own_chgC (own_belowW' HR8.out (((Below.refl _ _).alloc (Nat.le_refl _) _).drew)) hc9 (by omega)); have hr9I : (r9 : Int) < (L.length : Int) := (by omega); have hr90 : (0 : Int) ≤ (r9 : Int) := (by omega); have HLB : Hid (∀ w', Chg c (c + 1) w9 w' → IC w' (some ⟨w8.heap.size, 0, none⟩) [-1, 0, 1, -2, m.size]) := (fun w' hc => ic_d1 (by rfl) (by rfl) (by simp) HC8.out (hc9.trans hc)); clear hc9 hu9)
                  | (go_at_call 261; (with_reducible refine (among_c c (n + 130 + 2 + 2) 5 5 _ [-1, 0, 1, -2, m.size] ?_ (by omega) (by omega) (by omega) _ (HW9.out.alloc _).cu ?_).mono ?_); (rfl); (exact fun w' hc => ic_litC (by rfl) (by rfl) (by simp) HC9.out hc rfl); rintro e wA ⟨xA, rfl, hxA, hcA, huA⟩; have HWA := Lib.hid ((HW9.out.alloc _).trans ⟨hcA, huA⟩); have HRA := Lib.hid (own_chgC (HR9.out.alloc _) hcA (by omega)); have HXA := Lib.hid hxA; clear hxA hcA huA; obtain ⟨⟨t0, t1⟩, t2⟩ := own_cell HRA.out r9 (by omega); have t3 := Own.block_lt HRA.out rfl; have hlo := own_block_lo HRA.out (g := gL) rfl)
                  | (go_at_call 261; (with_reducible refine (among_c c (n + 130 + 2 + 2) 5 5 _ [-1, 0, 1, -2, m.size] ?_ (by omega) (by omega) (by omega) _ HW9.out.cu ?_).mono ?_); (rfl); (exact fun w' hc => HLB.out w' hc); rintro e wA ⟨xA, rfl, hxA, hcA, huA⟩; have HWA := Lib.hid (HW9.out.trans ⟨hcA, huA⟩); have HRA := Lib.hid (own_chgC HR9.out hcA (by omega)); have HXA := Lib.hid hxA; clear hxA hcA huA; obtain ⟨⟨t0, t1⟩, t2⟩ := own_cell HRA.out r9 (by omega); have t3 := Own.block_lt HRA.out rfl; have hlo := own_block_lo HRA.out (g := gL) rfl))
              all_goals
                clear t0 t1 t2 t3 q0 q1 q2 q3
                go_wp2_with fail
                go_ret
                have hst := (own_store1 HRA.out r9 xA).1
                refine ⟨some ⟨gL, 0, none⟩, cL, L.set r9 xA, by rw [List.length_set]; rfl, fun w'' hch => own_icC (k := 0) (by rw [List.length_set]; exact hst) (by omega) hch, by rw [List.length_set]; omega, fun x hx => ?_, (cuw_set HWA.out (a := ⟨gL, r9, none⟩) (by show c < gL; omega) (by show _ ≤ gL; simp; omega) _).box HC.out |>.mono (by omega)⟩
                rcases List.mem_or_eq_of_mem_set hx with hx | hx
                · exact HL.out x hx
                · subst hx
                  have h2 := HXA.out
                  simp at h2
                  rcases h2 with rfl | rfl | rfl | rfl | rfl
                  · exact wfI_small (by decide) (by decide)
                  · exact wfI_small (by decide) (by decide)
                  · exact wfI_small (by decide) (by decide)
                  · exact wfI_small (by decide) (by decide)
                  · exact wfI_small (by omega) (by omega)
        · have ht : ((A.length : Int) == 0) = false := beq_eq_false_iff_ne.2 (by omega)
          have hA1 : A.length ≤ 41 := by rw [HA.out]; exact actsL_leS m xn ln
          go_wp2_with fail
          clear ht
          refine (pick_c c (n + 130 - 2 * j) A.length (by omega) (by omega) (by omega) _ HW3.out.cu).mono ?_
          rintro e w4 ⟨r, rfl, hr, hc4, hu4⟩
          have HW4 := Lib.hid (HW3.out.trans ⟨hc4, hu4⟩)
          have HR4 := Lib.hid (own_chgC HR3.out hc4 (by omega))
          obtain ⟨b9, off9, av, hb9, HX, hbs9, e9⟩ := (ic_chgC HI3.out hbc hc4).at r hr
          cases hb9
          have hrI : (r : Int) < (A.length : Int) := by omega
          have hmem : av ∈ actsL m (xn : Nat) (ln : Nat) := by rw [← HA.out, ← HX.out, getElem!_pos A r hr]; exact List.getElem_mem hr
          have hav : wfI av := by
            have := act_range OK.out hx (by rw [hasI_iff]; exact hmem)
            rcases this with rfl | ⟨k0, k1⟩
            · exact wfI_small (by decide) (by decide)
            · exact wfI_small (by omega) (by omega)
          obtain ⟨y, k, hd, hy, hk, -⟩ := do_nat OK.out hx hl hmem
          have HD := Lib.hid hd
          have HAV := Lib.hid hav
          obtain ⟨q0, q1, q2, q3⟩ := box_at HW4.out hcz
          clear hc4 hu4 HW3 HR3 hd hav hmem
          go_wp2_with fail
          refine (l8Do_c _ m xn ln av _ (HM.out _ (HW4.out.box HC.out).ch) OK.out hx hl).mono ?_
          rw [HD.out]
          rintro e w5 ⟨rfl, hb5⟩
          have HW5 := Lib.hid (HW4.out.below hb5 (Nat.le_refl _))
          have HR5 := Lib.hid (own_belowW' HR4.out hb5)
          have hz5 := HW5.out.ch.size
          have hz6 : w.heap.size + 1 ≤ w5.heap.size := by simpa using hz5
          clear hb5 q0 q1 q2 q3 e9 HW4 HR4 hz5
          dsimp only
          go_wp2_with (at_builtin; refine wpList_append_own _ rfl _ _ 24 rfl (w.heap.size + 1) 3 i0 (.int .i64 0) 1 8 Try.underlying24 hi hz0 hz1 hz2 rfl (by decide) _ _ _ rfl (HR5.out.alloc _) ⟨w5.heap.size, 0, none⟩ 1 1 [.int .i64 av] rfl rfl ?_ ?_ ?_ ?_ ?_ ?_; (exact cell_one_new _ _ _); (simp [Value.oneCell']); (unfold maxLen; omega); omega; (simp; omega); intro v' w6 hown' hgrow _)
          go_roundw
          case rel => exact ⟨j - 1, y, k, L ++ [av], rfl, rfl, by go_num, by omega, by rw [List.length_append]; simp; omega, hy, hk, by rw [ints_snoc, List.length_append]; exact hown', fun x hx => (by
            rw [List.mem_append] at hx
            rcases hx with hx | hx
            · exact HL.out x hx
            · have : x = av := by simpa using hx
              rw [this]; exact HAV.out), ((HW5.out.alloc _).grown hgrow (fun g hg => own_block_lo HR5.out hg) (by simp) (by simp; omega)).mono (by omega)⟩
          case measure => simp [intOf]; omega
      · obtain rfl : j = 0 := by omega
        obtain ⟨aL, cL, rfl⟩ := own_slice HR.out
        by_cases hl0 : L.length = 0
        · have hlf : ¬ ((0 : Int) < (L.length : Int)) := by omega
          clear hl0
          go_wp2_with fail
          go_ret
          exact ⟨aL, cL, L, rfl, fun w'' hch => own_icC (k := 0) HR.out (by omega) hch, by omega, HL.out, HW.out.box HC.out |>.mono (by omega)⟩
        · have hlf : (0 : Int) < (L.length : Int) := by omega
          go_wp2_with fail
          refine (one_c c (n + 130) 12 (by omega) (by omega) (by omega) _ HW.out.cu).mono ?_
          rintro e w8 ⟨b8, rfl, hc8, hu8⟩
          have HW8 := Lib.hid (HW.out.trans ⟨hc8, hu8⟩)
          have HR8 := Lib.hid (own_chgC HR.out hc8 (by omega))
          have HC8 : Hid (c < w8.heap.size) := hu8.lt
          clear hc8 hu8 HW HR
          cases b8
          · go_wp2_with fail
            go_ret
            exact ⟨aL, cL, L, rfl, fun w'' hch => own_icC (k := 0) HR8.out (by omega) hch, by omega, HL.out, HW8.out.box HC.out |>.mono (by omega)⟩
          · obtain ⟨gL, cL', hvL, -, -⟩ := own_someS HR8.out (by omega)
            cases hvL
            obtain ⟨q0, q1, q2, q3⟩ := box_at HW8.out hcz
            go_upto_region 13 with fail
            clear hlf
            go_region_held3 (fun W => W.cell? ⟨w.heap.size, 0, none⟩ = some (.int .i64 m.size))
              (first
                | with_reducible exact (box_at HW8.out.drew hcz).1
                | with_reducible exact (box_at (HW8.out.alloc _).drew hcz).1
                | with_reducible exact (box_at HW9.out hcz).1
                | with_reducible exact (box_at (HW9.out.alloc _) hcz).1
                | with_reducible exact (box_at HWA.out hcz).1
                | with_reducible exact (set_ne _ _ (by omega)).trans (box_at HWA.out hcz).1)
              (first
                | (go_at_call 144; (with_reducible refine (pick_c c (n + 130 + 2) L.length (by omega) (by omega) (by omega) _ HW8.out.drew.cu).mono ?_); rintro e w9 ⟨r9, rfl, hr9, hc9, hu9⟩; have HW9 := Lib.hid (HW8.out.drew.trans ⟨hc9, hu9⟩); have HR9 := Lib.hid (own_chgC (own_belowW' HR8.out (Below.refl _ _).drew) hc9 (by omega)); have HC9 : Hid (c < w9.heap.size) := hu9.lt; have hr9I : (r9 : Int) < (L.length : Int) := (by omega); have hr90 : (0 : Int) ≤ (r9 : Int) := (by omega); clear hc9 hu9)
                | (go_at_call 144; (with_reducible refine (pick_c c (n + 130 + 2) L.length (by omega) (by omega) (by omega) _ (HW8.out.alloc _).drew.cu).mono ?_); rintro e w9 ⟨r9, rfl, hr9, hc9, hu9⟩; have HW9 := Lib.hid ((HW8.out.alloc _).drew.trans ⟨hc9, hu9⟩); have HR9 := Lib.hid (own_chgC (own_belowW' HR8.out (((Below.refl _ _).alloc (Nat.le_refl _) _).drew)) hc9 (by omega)); have hr9I : (r9 : Int) < (L.length : Int) := (by omega); have hr90 : (0 : Int) ≤ (r9 : Int) := (by omega); have HLB : Hid (∀ w', Chg c (c + 1) w9 w' → IC w' (some ⟨w8.heap.size, 0, none⟩) [-1, 0, 1, -2, m.size]) := (fun w' hc => ic_d1 (by rfl) (by rfl) (by simp) HC8.out (hc9.trans hc)); clear hc9 hu9)
                | (go_at_call 261; (with_reducible refine (among_c c (n + 130 + 2 + 2) 5 5 _ [-1, 0, 1, -2, m.size] ?_ (by omega) (by omega) (by omega) _ (HW9.out.alloc _).cu ?_).mono ?_); (rfl); (exact fun w' hc => ic_litC (by rfl) (by rfl) (by simp) HC9.out hc rfl); rintro e wA ⟨xA, rfl, hxA, hcA, huA⟩; have HWA := Lib.hid ((HW9.out.alloc _).trans ⟨hcA, huA⟩); have HRA := Lib.hid (own_chgC (HR9.out.alloc _) hcA (by omega)); have HXA := Lib.hid hxA; clear hxA hcA huA; obtain ⟨⟨t0, t1⟩, t2⟩ := own_cell HRA.out r9 (by omega); have t3 := Own.block_lt HRA.out rfl; have hlo := own_block_lo HRA.out (g := gL) rfl)
                | (go_at_call 261; (with_reducible refine (among_c c (n + 130 + 2 + 2) 5 5 _ [-1, 0, 1, -2, m.size] ?_ (by omega) (by omega) (by omega) _ HW9.out.cu ?_).mono ?_); (rfl); (exact fun w' hc => HLB.out w' hc); rintro e wA ⟨xA, rfl, hxA, hcA, huA⟩; have HWA := Lib.hid (HW9.out.trans ⟨hcA, huA⟩); have HRA := Lib.hid (own_chgC HR9.out hcA (by omega)); have HXA := Lib.hid hxA; clear hxA hcA huA; obtain ⟨⟨t0, t1⟩, t2⟩ := own_cell HRA.out r9 (by omega); have t3 := Own.block_lt HRA.out rfl; have hlo := own_block_lo HRA.out (g := gL) rfl))
            all_goals
              clear t0 t1 t2 t3 q0 q1 q2 q3
              go_wp2_with fail
              go_ret
              have hst := (own_store1 HRA.out r9 xA).1
              refine ⟨some ⟨gL, 0, none⟩, cL, L.set r9 xA, by rw [List.length_set]; rfl, fun w'' hch => own_icC (k := 0) (by rw [List.length_set]; exact hst) (by omega) hch, by rw [List.length_set]; omega, fun x hx => ?_, (cuw_set HWA.out (a := ⟨gL, r9, none⟩) (by show c < gL; omega) (by show _ ≤ gL; simp; omega) _).box HC.out |>.mono (by omega)⟩
              rcases List.mem_or_eq_of_mem_set hx with hx | hx
              · exact HL.out x hx
              · subst hx
                have h2 := HXA.out
                simp at h2
                rcases h2 with rfl | rfl | rfl | rfl | rfl
                · exact wfI_small (by decide) (by decide)
                · exact wfI_small (by decide) (by decide)
                · exact wfI_small (by decide) (by decide)
                · exact wfI_small (by decide) (by decide)
                · exact wfI_small (by omega) (by omega)
end Go.Proofs.Ytmilpahggceemaa
