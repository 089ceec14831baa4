/- Breadth first search over numbers below 768: plain words, no program. -/
import Derived.Test.YtldogbahbjompaaKdSort
set_option linter.unusedVariables false
set_option linter.unusedSimpArgs false
namespace Go.KD
open Go.RowKit
abbrev Bn := Nat × Nat
def bAdd (c : Nat) (E : List Bn) (y : Nat) : List Bn := if E.any (fun e => e.1 == y) then E else E ++ [(y, c)]
def bExpJ (nx : Nat → List Nat) (E : List Bn) (i j : Nat) : List Bn := ((nx (E[i]!).1).take j).foldl (bAdd ((E[i]!).2 + 1)) E
def bExp (nx : Nat → List Nat) (E : List Bn) (i : Nat) : List Bn := bExpJ nx E i (nx (E[i]!).1).length
def bfE (nx : Nat → List Nat) (E0 : List Bn) : Nat → List Bn
  | 0 => E0
  | i + 1 => if i < (bfE nx E0 i).length then bExp nx (bfE nx E0 i) i else bfE nx E0 i
def bfF (nx : Nat → List Nat) (E0 : List Bn) : List Bn := bfE nx E0 768
def bD (E : List Bn) (y : Nat) : Int := match E.find? (fun e => e.1 == y) with | some e => (e.2 : Int) | none => -1
/-- There is a walk of k steps. -/
def bWalk (nx : Nat → List Nat) : Nat → Nat → Nat → Prop
  | 0, s, y => s = y
  | k + 1, s, y => ∃ z, bWalk nx k s z ∧ y ∈ nx z
def bNx (nx : Nat → List Nat) : Prop := ∀ x, x < 768 → ∀ y ∈ nx x, y < 768
/-- The search in round i, with j of the round's steps done. -/
structure BOk (nx : Nat → List Nat) (S : List Nat) (E : List Bn) (i j : Nat) : Prop where
  nd : (E.map (·.1)).Nodup
  lt : ∀ e ∈ E, e.1 < 768
  so : ∀ a b, a ≤ b → b < E.length → (E[a]!).2 ≤ (E[b]!).2
  hi : i < E.length → ∀ b, b < E.length → (E[b]!).2 ≤ (E[i]!).2 + 1
  cl : ∀ a, a < i → a < E.length → ∀ y ∈ nx (E[a]!).1, ∃ e ∈ E, e.1 = y ∧ e.2 ≤ (E[a]!).2 + 1
  pj : ∀ y ∈ (nx (E[i]!).1).take j, ∃ e ∈ E, e.1 = y ∧ e.2 ≤ (E[i]!).2 + 1
  sd : ∀ e ∈ E, ∃ s ∈ S, bWalk nx e.2 s e.1
  st : ∀ s ∈ S, ∃ e ∈ E, e.1 = s ∧ e.2 = 0
theorem bApp_l {E : List Bn} {z : Bn} {a : Nat} (h : a < E.length) : (E ++ [z])[a]! = E[a]! := by
  rw [getElem!_pos (E ++ [z]) a (by simp; omega), getElem!_pos E a h, List.getElem_append_left]
theorem bApp_r {E : List Bn} {z : Bn} : (E ++ [z])[E.length]! = z := by
  rw [getElem!_pos _ _ (by simp)]; simp
theorem bLt_of {l : List Nat} {n : Nat} (hn : l.Nodup) (h : ∀ x ∈ l, x < n) : l.length ≤ n := by
  have hp : l.Perm ((List.range n).filter fun x => l.contains x) := by
    refine (List.perm_ext_iff_of_nodup hn (List.Pairwise.filter _ List.nodup_range)).2 fun x => ?_
    simp only [List.mem_filter, List.mem_range, List.contains_iff_mem]
    exact ⟨fun hx => ⟨h x hx, hx⟩, fun hx => hx.2⟩
  rw [hp.length_eq]
  exact Nat.le_trans (List.length_filter_le _ _) (by simp)
theorem BOk.le {nx : Nat → List Nat} {S : List Nat} {E : List Bn} {i j : Nat} (h : BOk nx S E i j) : E.length ≤ 768 := by
  have := bLt_of h.nd (n := 768) (fun x hx => by obtain ⟨e, he, rfl⟩ := List.mem_map.1 hx; exact h.lt e he)
  simpa using this
theorem bAdd_yes {c : Nat} {E : List Bn} {y : Nat} (h : E.any (fun e => e.1 == y) = true) : bAdd c E y = E := by unfold bAdd; rw [if_pos h]
theorem bAdd_no {c : Nat} {E : List Bn} {y : Nat} (h : E.any (fun e => e.1 == y) = false) : bAdd c E y = E ++ [(y, c)] := by unfold bAdd; rw [if_neg (by rw [h]; simp)]
theorem bTake {l : List Nat} {j : Nat} (hj : j < l.length) : l.take (j + 1) = l.take j ++ [l[j]!] := by rw [List.take_add_one, List.getElem?_eq_getElem hj, getElem!_pos l j hj]; rfl
theorem bExpJ_step (nx : Nat → List Nat) (E : List Bn) (i : Nat) {j : Nat} (hj : j < (nx (E[i]!).1).length) : bExpJ nx E i (j + 1) = bAdd ((E[i]!).2 + 1) (bExpJ nx E i j) (nx (E[i]!).1)[j]! := by
  unfold bExpJ
  rw [bTake hj, List.foldl_append]
  rfl
theorem bAdd_pre (c : Nat) (E : List Bn) (y : Nat) : E <+: bAdd c E y := by
  unfold bAdd; split
  · exact List.prefix_refl _
  · exact List.prefix_append _ _
theorem bFold_pre (c : Nat) : ∀ (l : List Nat) (E : List Bn), E <+: l.foldl (bAdd c) E
  | [], E => List.prefix_refl _
  | k :: l, E => (bAdd_pre c E k).trans (bFold_pre c l _)
theorem bExpJ_pre (nx : Nat → List Nat) (E : List Bn) (i j : Nat) : E <+: bExpJ nx E i j := bFold_pre _ _ _
theorem bPre_at {l l' : List Bn} (h : l <+: l') {i : Nat} (hi : i < l.length) : l'[i]! = l[i]! := by
  obtain ⟨t, rfl⟩ := h
  rw [getElem!_pos (l ++ t) i (by simp; omega), getElem!_pos l i hi, List.getElem_append_left]
theorem bMem {E : List Bn} {i : Nat} (h : i < E.length) : E[i]! ∈ E := by rw [getElem!_pos E i h]; exact List.getElem_mem h
theorem bIdx {E : List Bn} {e : Bn} (h : e ∈ E) : ∃ i, i < E.length ∧ E[i]! = e := by
  obtain ⟨i, hi, he⟩ := List.mem_iff_getElem.1 h
  exact ⟨i, hi, by rw [getElem!_pos E i hi]; exact he⟩
theorem BOk.add {nx : Nat → List Nat} {S : List Nat} {E : List Bn} {i j : Nat} (hn : bNx nx) (h : BOk nx S E i j) (hi : i < E.length) (hj : j < (nx (E[i]!).1).length) : BOk nx S (bAdd ((E[i]!).2 + 1) E (nx (E[i]!).1)[j]!) i (j + 1) := by
  obtain ⟨y, hy⟩ : ∃ y, y = (nx (E[i]!).1)[j]! := ⟨_, rfl⟩
  have hyn : y ∈ nx (E[i]!).1 := by rw [hy, getElem!_pos _ j hj]; exact List.getElem_mem hj
  have hyl : y < 768 := hn _ (h.lt _ (bMem hi)) y hyn
  rw [← hy]
  cases ha : E.any (fun e => e.1 == y)
  · rw [bAdd_no ha]
    have hne : ∀ e ∈ E, e.1 ≠ y := fun e he h' => by
      have := (List.any_eq_false.1 ha) e he
      simp [h'] at this
    have ei : (E ++ [(y, (E[i]!).2 + 1)])[i]! = E[i]! := bApp_l hi
    refine ⟨?_, ?_, ?_, ?_, ?_, ?_, ?_, ?_⟩
    · rw [List.map_append, List.nodup_append]
      refine ⟨h.nd, by simp, fun a ha b hb hab => ?_⟩
      obtain ⟨e, he, rfl⟩ := List.mem_map.1 ha
      have : b = y := by simpa using hb
      exact hne e he (by rw [hab, this])
    · intro e he
      rw [List.mem_append] at he
      rcases he with he | he
      · exact h.lt e he
      · have : e = (y, (E[i]!).2 + 1) := by simpa using he
        rw [this]; exact hyl
    · intro a b hab hb
      simp only [List.length_append, List.length_singleton] at hb
      rcases Nat.lt_or_ge b E.length with hbl | hbl
      · rw [bApp_l hbl, bApp_l (by omega)]; exact h.so a b hab hbl
      · obtain rfl : b = E.length := by omega
        rw [bApp_r]
        rcases Nat.lt_or_ge a E.length with hal | hal
        · rw [bApp_l hal]; exact h.hi hi a hal
        · obtain rfl : a = E.length := by omega
          rw [bApp_r]; exact Nat.le_refl _
    · intro _ b hb
      simp only [List.length_append, List.length_singleton] at hb
      rw [ei]
      rcases Nat.lt_or_ge b E.length with hbl | hbl
      · rw [bApp_l hbl]; exact h.hi hi b hbl
      · obtain rfl : b = E.length := by omega
        rw [bApp_r]; exact Nat.le_refl _
    · intro a hai _ y' hy'
      rw [bApp_l (by omega)] at hy' ⊢
      obtain ⟨e, he, h1, h2⟩ := h.cl a hai (by omega) y' hy'
      exact ⟨e, by simp [he], h1, h2⟩
    · intro y' hy'
      rw [ei] at hy' ⊢
      rw [bTake hj, List.mem_append] at hy'
      rcases hy' with hy' | hy'
      · obtain ⟨e, he, h1, h2⟩ := h.pj y' hy'
        exact ⟨e, by simp [he], h1, h2⟩
      · have : y' = y := by rw [hy]; simpa using hy'
        subst this
        exact ⟨(y', (E[i]!).2 + 1), by simp, rfl, Nat.le_refl _⟩
    · intro e he
      rw [List.mem_append] at he
      rcases he with he | he
      · exact h.sd e he
      · have : e = (y, (E[i]!).2 + 1) := by simpa using he
        subst this
        obtain ⟨s, hs, hw⟩ := h.sd _ (bMem hi)
        exact ⟨s, hs, _, hw, hyn⟩
    · intro s hs
      obtain ⟨e, he, h1, h2⟩ := h.st s hs
      exact ⟨e, by simp [he], h1, h2⟩
  · rw [bAdd_yes ha]
    refine ⟨h.nd, h.lt, h.so, h.hi, h.cl, ?_, h.sd, h.st⟩
    intro y' hy'
    rw [bTake hj, List.mem_append] at hy'
    rcases hy' with hy' | hy'
    · exact h.pj y' hy'
    · have : y' = y := by rw [hy]; simpa using hy'
      subst this
      obtain ⟨e, he, h1⟩ := List.any_eq_true.1 ha
      have h1 : e.1 = y' := by simpa using h1
      obtain ⟨b, hb, rfl⟩ := bIdx he
      exact ⟨_, he, h1, h.hi hi b hb⟩
theorem BOk.exp {nx : Nat → List Nat} {S : List Nat} {E : List Bn} {i : Nat} (hn : bNx nx) (h : BOk nx S E i 0) (hi : i < E.length) : ∀ j, j ≤ (nx (E[i]!).1).length → BOk nx S (bExpJ nx E i j) i j
  | 0, _ => by simpa [bExpJ] using h
  | j + 1, hj => by
    have ih := BOk.exp hn h hi j (by omega)
    have hp := bExpJ_pre nx E i j
    have hat := bPre_at hp hi
    rw [bExpJ_step nx E i (by omega)]
    have := ih.add hn (Nat.lt_of_lt_of_le hi hp.length_le) (by rw [hat]; omega)
    rwa [hat] at this
theorem BOk.next {nx : Nat → List Nat} {S : List Nat} {E : List Bn} {i : Nat} (hn : bNx nx) (h : BOk nx S E i 0) (hi : i < E.length) : BOk nx S (bExp nx E i) (i + 1) 0 := by
  have h1 := h.exp hn hi _ (Nat.le_refl _)
  have hp := bExpJ_pre nx E i (nx (E[i]!).1).length
  have hat := bPre_at hp hi
  have hil := Nat.lt_of_lt_of_le hi hp.length_le
  have hall : ∀ y ∈ nx (E[i]!).1, ∃ e ∈ bExp nx E i, e.1 = y ∧ e.2 ≤ (E[i]!).2 + 1 := by
    have := h1.pj
    rw [hat, List.take_length] at this
    exact this
  refine ⟨h1.nd, h1.lt, h1.so, ?_, ?_, fun y hy => by simp at hy, h1.sd, h1.st⟩
  · intro hl b hb
    have h2 := h1.hi hil b hb
    have h3 := h1.so i (i + 1) (by omega) hl
    show _ ≤ ((bExpJ nx E i (nx (E[i]!).1).length)[i + 1]!).2 + 1
    exact Nat.le_trans h2 (Nat.add_le_add_right h3 1)
  · intro a ha hal y hy
    rcases Nat.lt_or_ge a i with hai | hai
    · exact h1.cl a hai hal y hy
    · obtain rfl : a = i := by omega
      have e : (bExp nx E a)[a]! = E[a]! := hat
      rw [e] at hy ⊢
      exact hall y hy
theorem bfE_ok {nx : Nat → List Nat} {S : List Nat} {E0 : List Bn} (hn : bNx nx) (h : BOk nx S E0 0 0) : ∀ i, BOk nx S (bfE nx E0 i) i 0
  | 0 => h
  | i + 1 => by
    have ih := bfE_ok hn h i
    show BOk nx S (if i < (bfE nx E0 i).length then bExp nx (bfE nx E0 i) i else bfE nx E0 i) (i + 1) 0
    split
    · rename_i hi; exact ih.next hn hi
    · rename_i hi
      refine ⟨ih.nd, ih.lt, ih.so, fun hl => by omega, fun a ha hal => ih.cl a (by omega) hal, fun y hy => by simp at hy, ih.sd, ih.st⟩
theorem b_start {nx : Nat → List Nat} {S : List Nat} (hS : S.Nodup) (hl : ∀ s ∈ S, s < 768) : BOk nx S (S.map fun s => ((s, 0) : Bn)) 0 0 := by
  have hz : ∀ b, b < (S.map fun s => ((s, 0) : Bn)).length → ((S.map fun s => ((s, 0) : Bn))[b]!).2 = 0 := fun b hb => by
    have := bMem hb
    obtain ⟨s, -, hs⟩ := List.mem_map.1 this
    rw [← hs]
  refine ⟨?_, ?_, ?_, ?_, fun a ha => by omega, fun y hy => by simp at hy, ?_, ?_⟩
  · rw [List.map_map]
    have : ((fun e : Bn => e.1) ∘ fun s => ((s, 0) : Bn)) = id := rfl
    rw [this, List.map_id]; exact hS
  · intro e he
    obtain ⟨s, hs, rfl⟩ := List.mem_map.1 he
    exact hl s hs
  · intro a b hab hb
    rw [hz b hb, hz a (by omega)]; exact Nat.le_refl _
  · intro h0 b hb
    rw [hz b hb]; omega
  · intro e he
    obtain ⟨s, hs, rfl⟩ := List.mem_map.1 he
    exact ⟨s, hs, rfl⟩
  · intro s hs
    exact ⟨(s, 0), List.mem_map.2 ⟨s, hs, rfl⟩, rfl, rfl⟩
/-! The ends of the search -/
theorem bfE_end {nx : Nat → List Nat} {E0 : List Bn} {i : Nat} (h : (bfE nx E0 i).length ≤ i) : ∀ d, bfE nx E0 (i + d) = bfE nx E0 i
  | 0 => rfl
  | d + 1 => by
    have ih := bfE_end h d
    show (if i + d < (bfE nx E0 (i + d)).length then bExp nx (bfE nx E0 (i + d)) (i + d) else bfE nx E0 (i + d)) = _
    rw [ih, if_neg (by omega)]
theorem bfF_eq {nx : Nat → List Nat} {E0 : List Bn} {i : Nat} (hi : i ≤ 768) (h : (bfE nx E0 i).length ≤ i) : bfF nx E0 = bfE nx E0 i := by
  unfold bfF
  rw [show 768 = i + (768 - i) from by omega, bfE_end h]
theorem bfE_next {nx : Nat → List Nat} {E0 : List Bn} {i : Nat} (hi : i < (bfE nx E0 i).length) : bfE nx E0 (i + 1) = bExp nx (bfE nx E0 i) i := by
  show (if i < (bfE nx E0 i).length then _ else _) = _
  rw [if_pos hi]
theorem bD_some {E : List Bn} {y : Nat} {e : Bn} (hn : (E.map (·.1)).Nodup) (he : e ∈ E) (h : e.1 = y) : bD E y = (e.2 : Int) := by
  unfold bD
  cases hf : E.find? (fun e => e.1 == y) with
  | none =>
    have := List.find?_eq_none.1 hf e he
    simp [h] at this
  | some e' =>
    have h1 : e'.1 = y := by simpa using List.find?_some hf
    have h2 := List.mem_of_find?_eq_some hf
    have : e = e' := by
      have h3 := h.trans h1.symm
      clear hf h h1
      induction E with
      | nil => cases he
      | cons a E ih =>
        rw [List.map_cons, List.nodup_cons] at hn
        rw [List.mem_cons] at he h2
        rcases he with rfl | he <;> rcases h2 with rfl | h2
        · rfl
        · exact absurd (List.mem_map.2 ⟨e', h2, h3.symm⟩) hn.1
        · exact absurd (List.mem_map.2 ⟨e, he, h3⟩) hn.1
        · exact ih hn.2 he h2
    rw [this]
theorem bD_none {E : List Bn} {y : Nat} (h : E.any (fun e => e.1 == y) = false) : bD E y = -1 := by
  unfold bD
  cases hf : E.find? (fun e => e.1 == y) with
  | none => rfl
  | some e' =>
    have h2 := List.mem_of_find?_eq_some hf
    have h1 := List.find?_some hf
    have := List.any_eq_false.1 h e' h2
    exact absurd h1 this
theorem bD_neg {E : List Bn} {y : Nat} : (bD E y < 0) ↔ E.any (fun e => e.1 == y) = false := by
  constructor
  · intro h
    cases ha : E.any (fun e => e.1 == y)
    · rfl
    · obtain ⟨e, he, h1⟩ := List.any_eq_true.1 ha
      unfold bD at h
      cases hf : E.find? (fun e => e.1 == y) with
      | none => have := List.find?_eq_none.1 hf e he; exact absurd h1 this
      | some e' => rw [hf] at h; simp at h; omega
  · intro h
    rw [bD_none h]; omega
/-- The answer c of a search from S at y. -/
def bAns (nx : Nat → List Nat) (S : List Nat) (y : Nat) (c : Int) : Prop := (c = -1 ∧ ∀ k s, s ∈ S → ¬ bWalk nx k s y) ∨ (0 ≤ c ∧ (∃ s ∈ S, bWalk nx c.toNat s y) ∧ ∀ k s, s ∈ S → bWalk nx k s y → c ≤ (k : Int))
theorem bAns_one {nx : Nat → List Nat} {S : List Nat} {y : Nat} {c d : Int} (h : bAns nx S y c) (h' : bAns nx S y d) : c = d := by
  rcases h with ⟨h1, h2⟩ | ⟨h1, ⟨s, hs, hw⟩, h3⟩ <;> rcases h' with ⟨k1, k2⟩ | ⟨k1, ⟨t, ht, kw⟩, k3⟩
  · omega
  · exact absurd kw (h2 _ _ ht)
  · exact absurd hw (k2 _ _ hs)
  · have := h3 _ _ ht kw
    have := k3 _ _ hs hw
    omega
theorem bf_walk {nx : Nat → List Nat} {S : List Nat} {F : List Bn} (h : BOk nx S F 768 0) : ∀ (k s y : Nat), s ∈ S → bWalk nx k s y → ∃ e ∈ F, e.1 = y ∧ e.2 ≤ k
  | 0, s, y, hs, hw => by
    obtain ⟨e, he, h1, h2⟩ := h.st s hs
    have hw : s = y := hw
    exact ⟨e, he, by rw [h1, hw], by omega⟩
  | k + 1, s, y, hs, hw => by
    obtain ⟨z, hz, hy⟩ := hw
    obtain ⟨e, he, h1, h2⟩ := bf_walk h k s z hs hz
    obtain ⟨a, ha, rfl⟩ := bIdx he
    rw [← h1] at hy
    obtain ⟨e', he', k1, k2⟩ := h.cl a (by have := h.le; omega) ha y hy
    exact ⟨e', he', k1, by omega⟩
theorem bf_ans {nx : Nat → List Nat} {S : List Nat} {F : List Bn} (h : BOk nx S F 768 0) (y : Nat) : bAns nx S y (bD F y) := by
  cases ha : F.any (fun e => e.1 == y)
  · refine .inl ⟨bD_none ha, fun k s hs hw => ?_⟩
    obtain ⟨e, he, h1, -⟩ := bf_walk h k s y hs hw
    have := List.any_eq_false.1 ha e he
    simp [h1] at this
  · obtain ⟨e, he, h1⟩ := List.any_eq_true.1 ha
    have h1 : e.1 = y := by simpa using h1
    rw [bD_some h.nd he h1]
    refine .inr ⟨by omega, ?_, fun k s hs hw => ?_⟩
    · obtain ⟨s, hs, hw⟩ := h.sd e he
      exact ⟨s, hs, by rw [Int.toNat_natCast, ← h1]; exact hw⟩
    · obtain ⟨e', he', k1, k2⟩ := bf_walk h k s y hs hw
      have e1 := bD_some h.nd he h1
      have e2 := bD_some h.nd he' k1
      omega
/-- From a symmetric step: walks lead back. -/
theorem bWalk_cons {nx : Nat → List Nat} {z : Nat} : ∀ {k y s : Nat}, z ∈ nx y → bWalk nx k z s → bWalk nx (k + 1) y s
  | 0, y, s, h, hw => ⟨y, rfl, by have hw : z = s := hw; rw [← hw]; exact h⟩
  | k + 1, y, s, h, ⟨u, hu, hs⟩ => ⟨u, bWalk_cons h hu, hs⟩
theorem bWalk_lt {nx : Nat → List Nat} (hn : bNx nx) : ∀ {k s y : Nat}, s < 768 → bWalk nx k s y → y < 768
  | 0, s, y, hs, hw => by have hw : s = y := hw; omega
  | k + 1, s, y, hs, ⟨z, hz, hy⟩ => hn z (bWalk_lt hn hs hz) y hy
theorem bWalk_rev {nx : Nat → List Nat} (hn : bNx nx) (hsym : ∀ x y, x < 768 → y ∈ nx x → x ∈ nx y) : ∀ {k s y : Nat}, s < 768 → bWalk nx k s y → bWalk nx k y s
  | 0, s, y, hs, hw => by have hw : s = y := hw; exact hw.symm
  | k + 1, s, y, hs, ⟨z, hz, hy⟩ => bWalk_cons (hsym z y (bWalk_lt hn hs hz) hy) (bWalk_rev hn hsym hs hz)
end Go.KD
