/- The least number of steps to a goal in a graph of numbers; grids that come down to it. Plain words, no program. -/
import Derived.Test.YtldogbahbjompaaKdBfs
import Derived.Test.YtldogbahbjompaaKdNode
set_option linter.unusedVariables false
set_option linter.unusedSimpArgs false
namespace Go.KD
open Go.RowKit
/-- There is a walk of k steps to the goal. -/
def wTo (nx : Nat → List Nat) (T : Nat → Bool) : Nat → Nat → Prop
  | 0, i => T i = true
  | k + 1, i => ∃ j ∈ nx i, wTo nx T k j
theorem least_of {p : Nat → Prop} (h : ∃ k, p k) : ∃ k, p k ∧ ∀ j, p j → k ≤ j := by
  obtain ⟨k, hk⟩ := h
  induction k using Nat.strongRecOn with
  | _ k ih =>
    by_cases e : ∃ j, j < k ∧ p j
    · obtain ⟨j, hj, hp⟩ := e
      exact ih j hj hp
    · exact ⟨k, hk, fun j hj => by
        rcases Nat.lt_or_ge j k with h | h
        · exact absurd ⟨j, h, hj⟩ e
        · exact h⟩
open Classical in
noncomputable def dTo (nx : Nat → List Nat) (T : Nat → Bool) (i : Nat) : Int := if h : ∃ k, wTo nx T k i then ((Classical.choose (least_of h) : Nat) : Int) else -1
theorem dTo_yes {nx : Nat → List Nat} {T : Nat → Bool} {i k : Nat} (h : wTo nx T k i) (hm : ∀ j, wTo nx T j i → k ≤ j) : dTo nx T i = (k : Int) := by
  have he : ∃ k, wTo nx T k i := ⟨k, h⟩
  unfold dTo
  rw [dif_pos he]
  obtain ⟨h1, h2⟩ := Classical.choose_spec (least_of he)
  have := h2 k h
  have := hm _ h1
  omega
theorem dTo_no {nx : Nat → List Nat} {T : Nat → Bool} {i : Nat} (h : ∀ k, ¬ wTo nx T k i) : dTo nx T i = -1 := by
  unfold dTo
  rw [dif_neg (fun ⟨k, hk⟩ => h k hk)]
theorem dTo_cases (nx : Nat → List Nat) (T : Nat → Bool) (i : Nat) : (dTo nx T i = -1 ∧ ∀ k, ¬ wTo nx T k i) ∨ ∃ k : Nat, dTo nx T i = (k : Int) ∧ wTo nx T k i ∧ ∀ j, wTo nx T j i → k ≤ j := by
  by_cases h : ∃ k, wTo nx T k i
  · obtain ⟨k, h1, h2⟩ := least_of h
    exact .inr ⟨k, dTo_yes h1 h2, h1, h2⟩
  · exact .inl ⟨dTo_no (fun k hk => h ⟨k, hk⟩), fun k hk => h ⟨k, hk⟩⟩
/-- What the least numbers of steps obey. -/
structure DOk (nx : Nat → List Nat) (T : Nat → Bool) (d : Nat → Int) : Prop where
  lo : ∀ i, -1 ≤ d i
  zero : ∀ i, d i = 0 ↔ T i = true
  step : ∀ i, ∀ j ∈ nx i, 0 ≤ d j → 0 ≤ d i ∧ d i ≤ d j + 1
  back : ∀ i, 0 < d i → ∃ j ∈ nx i, d j = d i - 1
theorem dTo_ok (nx : Nat → List Nat) (T : Nat → Bool) : DOk nx T (dTo nx T) := by
  refine ⟨fun i => ?_, fun i => ?_, fun i j hj h => ?_, fun i h => ?_⟩
  · rcases dTo_cases nx T i with ⟨h, -⟩ | ⟨k, h, -⟩ <;> omega
  · constructor
    · intro h
      rcases dTo_cases nx T i with ⟨h1, -⟩ | ⟨k, h1, h2, -⟩
      · omega
      · obtain rfl : k = 0 := by omega
        exact h2
    · intro h
      have := dTo_yes (nx := nx) (T := T) (i := i) (k := 0) h (fun j _ => Nat.zero_le _)
      simpa using this
  · rcases dTo_cases nx T j with ⟨h1, -⟩ | ⟨k, h1, h2, -⟩
    · omega
    · have hw : wTo nx T (k + 1) i := ⟨j, hj, h2⟩
      rcases dTo_cases nx T i with ⟨h3, h4⟩ | ⟨k', h3, h4, h5⟩
      · exact absurd hw (h4 _)
      · have := h5 _ hw
        omega
  · rcases dTo_cases nx T i with ⟨h3, h4⟩ | ⟨k', h3, h4, h5⟩
    · omega
    · cases k' with
      | zero => omega
      | succ k =>
        obtain ⟨j, hj, hw⟩ := h4
        refine ⟨j, hj, ?_⟩
        rw [dTo_yes hw (fun q hq => by have := h5 (q + 1) ⟨j, hj, hq⟩; omega), h3]
        omega
/-- Two graphs that are alike on a closed set have like walks there. -/
theorem dTo_same {nx nx' : Nat → List Nat} {T : Nat → Bool} {C : Nat → Prop} (hs : ∀ i, C i → nx i = nx' i) (hc : ∀ i, C i → ∀ j ∈ nx i, C j) {i : Nat} (hi : C i) : dTo nx T i = dTo nx' T i := by
  have key : ∀ k i, C i → (wTo nx T k i ↔ wTo nx' T k i) := by
    intro k
    induction k with
    | zero => intro i _; exact Iff.rfl
    | succ k ih =>
      intro i hi
      constructor
      · rintro ⟨j, hj, hw⟩
        exact ⟨j, by rw [← hs i hi]; exact hj, (ih j (hc i hi j hj)).1 hw⟩
      · rintro ⟨j, hj, hw⟩
        rw [← hs i hi] at hj
        exact ⟨j, hj, (ih j (hc i hi j hj)).2 hw⟩
  rcases dTo_cases nx T i with ⟨h1, h2⟩ | ⟨k, h1, h2, h3⟩
  · rw [h1, dTo_no (fun k hk => h2 k ((key k i hi).2 hk))]
  · rw [h1, dTo_yes ((key k i hi).1 h2) (fun j hj => h3 j ((key j i hi).2 hj))]
/-! ### Grids that come down -/
def wOf (v : Int) : Nat := if v < 0 then 1000 else v.toNat
def potL : List Int → Nat
  | [] => 0
  | v :: l => wOf v + potL l
def ngL : List Int → Nat
  | [] => 0
  | v :: l => (if v < 0 then 1 else 0) + ngL l
theorem pot_set : ∀ (l : List Int) (i : Nat) (v : Int), i < l.length → potL (l.set i v) + wOf l[i]! = potL l + wOf v
  | [], i, v, h => by simp at h
  | a :: l, 0, v, h => by simp [potL]; omega
  | a :: l, i + 1, v, h => by
    have ih := pot_set l i v (by simpa using h)
    simp only [List.set_cons_succ, potL, List.getElem!_cons_succ]
    omega
theorem ng_set : ∀ (l : List Int) (i : Nat) (v : Int), i < l.length → ngL (l.set i v) + (if l[i]! < 0 then 1 else 0) = ngL l + (if v < 0 then 1 else 0)
  | [], i, v, h => by simp at h
  | a :: l, 0, v, h => by simp only [List.set_cons_zero, ngL, List.getElem!_cons_zero]; omega
  | a :: l, i + 1, v, h => by
    have ih := ng_set l i v (by simpa using h)
    simp only [List.set_cons_succ, ngL, List.getElem!_cons_succ]
    omega
theorem ng_le : ∀ l : List Int, ngL l ≤ l.length
  | [] => Nat.le_refl _
  | a :: l => by have := ng_le l; simp only [ngL, List.length_cons]; split <;> omega
theorem ng_pos : ∀ (l : List Int) (i : Nat), i < l.length → l[i]! < 0 → 0 < ngL l
  | [], i, h, _ => by simp at h
  | a :: l, 0, h, hv => by simp only [List.getElem!_cons_zero] at hv; simp only [ngL, if_pos hv]; omega
  | a :: l, i + 1, h, hv => by
    have ih := ng_pos l i (by simpa using h) (by simpa using hv)
    simp only [ngL]; omega
theorem pot_le : ∀ (l : List Int) (c : Int), (∀ v ∈ l, v ≤ c) → c ≤ 1000 → potL l ≤ l.length * 1000
  | [], _, _, _ => by simp [potL]
  | a :: l, c, h, hc => by
    have ih := pot_le l c (fun v hv => h v (by simp [hv])) hc
    have := h a (by simp)
    have : wOf a ≤ 1000 := by unfold wOf; split <;> omega
    simp only [potL, List.length_cons]; omega
theorem set_at {l : List Int} {i j : Nat} {v : Int} (hi : i < l.length) : (l.set i v)[j]! = if j = i then v else l[j]! := by
  by_cases h : j = i
  · subst h
    rw [if_pos rfl, getElem!_pos _ j (by simpa using hi)]; simp
  · rw [if_neg h, getElem!_def, getElem!_def, List.getElem?_set_ne (by omega)]
/-- What a grid obeys on its way. -/
structure GInv (T : Nat → Bool) (d : Nat → Int) (G : List Int) : Prop where
  len : G.length = 768
  lo : ∀ i : Nat, i < 768 → -1 ≤ G[i]!
  up : ∀ i : Nat, i < 768 → 0 ≤ G[i]! → 0 ≤ d i ∧ d i ≤ G[i]! ∧ G[i]! + ngL G ≤ 768
  tz : ∀ i : Nat, i < 768 → T i = true → G[i]! = 0
/-- No step from i to j makes it better. -/
def relxB (G : List Int) (i j : Nat) : Bool := !(decide (0 ≤ G[j]!) && (decide (G[i]! < 0) || decide (G[j]! + 1 < G[i]!)))
theorem relxB_iff {G : List Int} {i j : Nat} : relxB G i j = true ↔ (0 ≤ G[j]! → 0 ≤ G[i]! ∧ G[i]! ≤ G[j]! + 1) := by
  simp only [relxB, Bool.not_eq_true', Bool.and_eq_false_iff, Bool.or_eq_false_iff, decide_eq_false_iff_not]
  omega
theorem GInv.better {nx : Nat → List Nat} {T : Nat → Bool} {d : Nat → Int} {G : List Int} (hd : DOk nx T d) (h : GInv T d G) {i j : Nat} (hi : i < 768) (hj : j < 768) (hn : j ∈ nx i) (hb : relxB G i j = false) :
    GInv T d (G.set i (G[j]! + 1)) ∧ potL (G.set i (G[j]! + 1)) < potL G := by
  have hl := h.len
  have hnot : ¬ (0 ≤ G[j]! → 0 ≤ G[i]! ∧ G[i]! ≤ G[j]! + 1) := by rw [← relxB_iff, hb]; simp
  have hj0 : 0 ≤ G[j]! := by
    rcases Int.lt_or_le G[j]! 0 with h | h
    · exact absurd (fun h' => by omega) hnot
    · exact h
  have hlt : G[i]! < 0 ∨ G[j]! + 1 < G[i]! := by
    rcases Int.lt_or_le G[i]! 0 with h1 | h1
    · exact .inl h1
    · rcases Int.lt_or_le (G[j]! + 1) G[i]! with h2 | h2
      · exact .inr h2
      · exact absurd (fun _ => ⟨h1, h2⟩) hnot
  obtain ⟨u1, u2, u3⟩ := h.up j hj hj0
  obtain ⟨s1, s2⟩ := hd.step i j hn u1
  have hng := ng_set G i (G[j]! + 1) (by omega)
  rw [if_neg (show ¬ G[j]! + 1 < 0 by omega)] at hng
  have hpot := pot_set G i (G[j]! + 1) (by omega)
  have hTi : ¬ T i = true := fun ht => by have := h.tz i hi ht; omega
  have hgp : G[i]! < 0 → 0 < ngL G := ng_pos G i (by omega)
  refine ⟨⟨by rw [List.length_set]; exact hl, fun k hk => ?_, fun k hk => ?_, fun k hk ht => ?_⟩, ?_⟩
  · rw [set_at (by omega)]
    split
    · omega
    · exact h.lo k hk
  · rw [set_at (by omega)]
    split
    · rename_i e
      subst e
      intro _
      refine ⟨s1, by omega, ?_⟩
      rcases hlt with hlt | hlt
      · have := hgp hlt
        rw [if_pos hlt] at hng
        omega
      · obtain ⟨_, _, v3⟩ := h.up k hk (by omega)
        rw [if_neg (by omega)] at hng
        omega
    · intro hk0
      obtain ⟨v1, v2, v3⟩ := h.up k hk hk0
      refine ⟨v1, v2, ?_⟩
      split at hng <;> omega
  · rw [set_at (by omega), if_neg (fun e => hTi (by rw [← e]; exact ht))]
    exact h.tz k hk ht
  · have w1 : wOf (G[j]! + 1) = (G[j]! + 1).toNat := by unfold wOf; rw [if_neg (by omega)]
    have w2 : wOf (G[j]! + 1) < wOf G[i]! := by
      rw [w1]
      unfold wOf
      split <;> omega
    omega
/-- Where nothing can be made better, the grid has the least numbers. -/
theorem GInv.done {nx : Nat → List Nat} {T : Nat → Bool} {d : Nat → Int} {G : List Int} (hd : DOk nx T d) (hnx : bNx nx) (h : GInv T d G) (hr : ∀ i : Nat, i < 768 → ∀ j ∈ nx i, relxB G i j = true) : ∀ i : Nat, i < 768 → G[i]! = d i := by
  have key : ∀ n : Nat, ∀ i, i < 768 → d i = (n : Int) → G[i]! = (n : Int) := by
    intro n
    induction n with
    | zero =>
      intro i hi h0
      exact h.tz i hi ((hd.zero i).1 (by simpa using h0))
    | succ n ih =>
      intro i hi h0
      obtain ⟨j, hj, he⟩ := hd.back i (by omega)
      have hj768 := hnx i hi j hj
      have e1 := ih j hj768 (by omega)
      have e2 := relxB_iff.1 (hr i hi j hj) (by omega)
      obtain ⟨u1, u2, u3⟩ := h.up i hi e2.1
      omega
  intro i hi
  rcases Int.lt_or_le (d i) 0 with hn | hn
  · have h1 := hd.lo i
    have h2 := h.lo i hi
    rcases Int.lt_or_le G[i]! 0 with h3 | h3
    · omega
    · have := (h.up i hi h3).1; omega
  · obtain ⟨n, hn2⟩ := Int.eq_ofNat_of_zero_le hn
    rw [key n i hi hn2, hn2]
theorem GInv.start {nx : Nat → List Nat} {T : Nat → Bool} {d : Nat → Int} {G : List Int} (hd : DOk nx T d) (hl : G.length = 768) (h : ∀ i : Nat, i < 768 → G[i]! = if T i = true then 0 else -1) : GInv T d G := by
  refine ⟨hl, fun i hi => by rw [h i hi]; split <;> omega, fun i hi h0 => ?_, fun i hi ht => by rw [h i hi, if_pos ht]⟩
  rw [h i hi] at h0 ⊢
  split at h0
  · rename_i ht
    rw [if_pos ht]
    have := (hd.zero i).2 ht
    have := ng_le G
    omega
  · omega
/-! ### Rounds that go outward: the least numbers below n -/
def trD (d : Nat → Int) (n : Nat) (i : Nat) : Int := if d i < (n : Int) then d i else -1
theorem trD_neg {d : Nat → Int} {n i : Nat} (h : -1 ≤ d i) : trD d n i < 0 ↔ (d i < 0 ∨ (n : Int) ≤ d i) := by
  unfold trD; split <;> omega
theorem trD_at {d : Nat → Int} {n i : Nat} (hn : 1 ≤ n) : (trD d n i = (n : Int) - 1) ↔ d i = (n : Int) - 1 := by
  unfold trD; split <;> omega
theorem trD_at' {d : Nat → Int} {n i : Nat} (hn : 1 ≤ n) : (trD d (n + 1) i = (n : Int) - 1) ↔ d i = (n : Int) - 1 := by
  unfold trD; split <;> omega
theorem trD_next {d : Nat → Int} {n i : Nat} (h : -1 ≤ d i) : trD d (n + 1) i = if d i = (n : Int) then (n : Int) else trD d n i := by
  unfold trD
  by_cases e : d i = (n : Int)
  · rw [if_pos (by omega), if_pos e, e]
  · rw [if_neg e]
    by_cases e2 : d i < (n : Int)
    · rw [if_pos (by omega), if_pos e2]
    · rw [if_neg (by omega), if_neg e2]
theorem DOk.is_next {nx : Nat → List Nat} {T : Nat → Bool} {d : Nat → Int} (hd : DOk nx T d) {n i : Nat} (hn : 1 ≤ n) (h : trD d n i < 0) : d i = (n : Int) ↔ ∃ j ∈ nx i, d j = (n : Int) - 1 := by
  rw [trD_neg (hd.lo i)] at h
  constructor
  · intro e
    obtain ⟨j, hj, h1⟩ := hd.back i (by omega)
    exact ⟨j, hj, by omega⟩
  · rintro ⟨j, hj, h1⟩
    have := hd.step i j hj (by omega)
    omega
/-- Nothing new in a round: nothing new behind it. -/
theorem DOk.stop {nx : Nat → List Nat} {T : Nat → Bool} {d : Nat → Int} (hd : DOk nx T d) {n N : Nat} (hin : ∀ i, i < N → ∀ j ∈ nx i, j < N) (h : ∀ i, i < N → d i ≠ (n : Int)) : ∀ i, i < N → d i < (n : Int) := by
  have key : ∀ k : Nat, ∀ i, i < N → d i ≠ ((n + k : Nat) : Int) := by
    intro k
    induction k with
    | zero => intro i hi; simpa using h i hi
    | succ k ih =>
      intro i hi e
      obtain ⟨j, hj, h1⟩ := hd.back i (by omega)
      exact ih j (hin i hi j hj) (by omega)
  intro i hi
  rcases Int.lt_or_le (d i) n with h1 | h1
  · exact h1
  · exact absurd (by omega) (key ((d i).toNat - n) i hi)
def cntD (d : Nat → Int) (n N : Nat) : Nat := ((List.range N).filter fun i => decide (0 ≤ trD d n i)).length
theorem cntD_succ (d : Nat → Int) (n N : Nat) : cntD d n (N + 1) = cntD d n N + if 0 ≤ trD d n N then 1 else 0 := by
  unfold cntD
  rw [List.range_succ, List.filter_append, List.length_append]
  by_cases h : 0 ≤ trD d n N <;> simp [h]
theorem trD_mono {d : Nat → Int} {n i : Nat} (h : 0 ≤ trD d n i) : 0 ≤ trD d (n + 1) i := by
  unfold trD at *
  split at h
  · rw [if_pos (by omega)]; exact h
  · omega
theorem cntD_mono (d : Nat → Int) (n : Nat) : ∀ N, cntD d n N ≤ cntD d (n + 1) N
  | 0 => Nat.le_refl _
  | N + 1 => by
    have ih := cntD_mono d n N
    rw [cntD_succ, cntD_succ]
    by_cases h : 0 ≤ trD d n N
    · rw [if_pos h, if_pos (trD_mono h)]; omega
    · rw [if_neg h]; omega
theorem cntD_more {d : Nat → Int} {n : Nat} : ∀ {N i : Nat}, i < N → d i = (n : Int) → cntD d n N < cntD d (n + 1) N
  | 0, i, hi, _ => by omega
  | N + 1, i, hi, h => by
    rw [cntD_succ, cntD_succ]
    by_cases e : i = N
    · subst e
      have h1 := cntD_mono d n i
      have h2 : ¬ 0 ≤ trD d n i := by unfold trD; rw [if_neg (by omega)]; omega
      have h3 : 0 ≤ trD d (n + 1) i := by unfold trD; rw [if_pos (by omega)]; omega
      rw [if_neg h2, if_pos h3]; omega
    · have ih := cntD_more (N := N) (i := i) (by omega) h
      by_cases h : 0 ≤ trD d n N
      · rw [if_pos h, if_pos (trD_mono h)]; omega
      · rw [if_neg h]; omega
theorem cntD_le (d : Nat → Int) (n N : Nat) : cntD d n N ≤ N := Nat.le_trans (List.length_filter_le _ _) (by simp)
theorem cntD_all {d : Nat → Int} {n N : Nat} (h : N ≤ cntD d n N) : ∀ i, i < N → 0 ≤ trD d n i := by
  have e : cntD d n N = ((List.range N).filter fun i => decide (0 ≤ trD d n i)).length := rfl
  have hl : ((List.range N).filter fun i => decide (0 ≤ trD d n i)).length = (List.range N).length := by
    have := cntD_le d n N
    rw [List.length_range]; omega
  have := List.length_filter_eq_length_iff.1 hl
  intro i hi
  simpa using this i (List.mem_range.2 hi)
end Go.KD
