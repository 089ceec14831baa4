/- Entry sets: what can be made node by node is what is its own largest entry set; rows in order, by their lengths and then by their numbers. Plain words. -/
import Derived.Test.YtldogbahbjompaaKdNode2
set_option linter.unusedVariables false
set_option linter.unusedSimpArgs false
namespace Go.KD
open Go.RowKit
/-- The sets that are made node by node. -/
inductive EntS (m : Mz) : Nat → Prop
  | one : EntS m 1
  | next {c y : Nat} : EntS m c → (nexN m c).testBit y = true → EntS m (c ||| 2 ^ y)
theorem EntS.lt {m : Mz} (ok : MzOk m) {c : Nat} (h : EntS m c) : c < 4096 := by
  induction h with
  | one => decide
  | @next c y _ hy ih =>
    have := bit_lt (n := 12) (nexN_lt ok c) hy
    exact Nat.or_lt_two_pow (n := 12) ih (Nat.pow_lt_pow_right (by omega) this)
theorem EntS.zero {m : Mz} {c : Nat} (h : EntS m c) : c.testBit 0 = true := by
  induction h with
  | one => decide
  | next _ _ ih => rw [Nat.testBit_or, ih]; rfl
theorem keyN_mono {m : Mz} {a b : Nat} (h : SubN a b) : SubN (keyN m a) (keyN m b) := keysL_mono (mem_mono h)
theorem nex_up {m : Mz} (ok : MzOk m) {a b y : Nat} (ha : a < 4096) (hb : b < 4096) (h : SubN a b) (hy : (nexN m a).testBit y = true) (hn : b.testBit y = false) : (nexN m b).testBit y = true := by
  obtain ⟨-, x, hx, ho⟩ := (nexN_bit ok ha y).1 hy
  exact (nexN_bit ok hb y).2 ⟨hn, x, h x hx, opnB_mono (keyN_mono h) ho⟩
theorem ent_many {m : Mz} (ok : MzOk m) {c s : Nat} (h : EntS m c) (hs : SubN s (nexN m c)) : ∀ k, EntS m (c ||| s % 2 ^ k)
  | 0 => by simpa [Nat.mod_one] using h
  | k + 1 => by
    have ih := ent_many ok h hs k
    cases hk : s.testBit k
    · have : s % 2 ^ (k + 1) = s % 2 ^ k := by
        apply Nat.eq_of_testBit_eq
        intro i
        rw [Nat.testBit_mod_two_pow, Nat.testBit_mod_two_pow]
        by_cases e : i = k
        · subst e; rw [hk]; simp
        · have : decide (i < k + 1) = decide (i < k) := by rw [decide_eq_decide]; omega
          rw [this]
      rw [this]; exact ih
    · have hy := hs k hk
      have hcl := h.lt ok
      have hn : (c ||| s % 2 ^ k).testBit k = false := by
        rw [Nat.testBit_or, Nat.testBit_mod_two_pow]
        have := ((nexN_bit ok hcl k).1 hy).1
        rw [this]; simp
      have h1 := EntS.next ih (nex_up ok hcl (ih.lt ok) (fun i hi => by rw [Nat.testBit_or, hi]; rfl) hy hn)
      have : c ||| s % 2 ^ (k + 1) = (c ||| s % 2 ^ k) ||| 2 ^ k := by
        apply Nat.eq_of_testBit_eq
        intro i
        simp only [Nat.testBit_or, Nat.testBit_mod_two_pow, Nat.testBit_two_pow]
        by_cases e : i = k
        · subst e; rw [hk]; simp
        · have : decide (i < k + 1) = decide (i < k) := by rw [decide_eq_decide]; omega
          rw [this]; simp [show ¬ k = i by omega]
      rw [this]; exact h1
theorem ent_it {m : Mz} (ok : MzOk m) {code : Nat} (h0 : code.testBit 0 = true) : ∀ k, EntS m (itL m code k)
  | 0 => by
    show EntS m (code &&& 1)
    have : code &&& 1 = 1 := by
      rw [Nat.and_one_is_mod]
      have : code % 2 = 1 := by
        have := Nat.mod_two_eq_one_iff_testBit_zero.2 h0
        exact this
      exact this
    rw [this]; exact EntS.one
  | k + 1 => by
    have ih := ent_it ok h0 k
    have h1 := ent_many ok (s := nexN m (itL m code k) &&& code) ih (fun i hi => by rw [Nat.testBit_and, Bool.and_eq_true] at hi; exact hi.1) 12
    have h2 : (nexN m (itL m code k) &&& code) % 2 ^ 12 = nexN m (itL m code k) &&& code := Nat.mod_eq_of_lt (Nat.lt_of_le_of_lt Nat.and_le_left (nexN_lt ok _))
    rw [h2] at h1
    exact h1
theorem larg_sub {m : Mz} {code : Nat} : ∀ k, SubN (itL m code k) code
  | 0 => fun i hi => by
    have hi : (code &&& 1).testBit i = true := hi
    rw [Nat.testBit_and, Bool.and_eq_true] at hi
    exact hi.1
  | k + 1 => fun i hi => by
    have hi : (itL m code k ||| (nexN m (itL m code k) &&& code)).testBit i = true := hi
    rw [Nat.testBit_or, Bool.or_eq_true, Nat.testBit_and, Bool.and_eq_true] at hi
    rcases hi with hi | hi
    · exact larg_sub k i hi
    · exact hi.2
theorem ent_sub {m : Mz} (ok : MzOk m) {code p : Nat} (h : EntS m p) (hc : SubN p code) : SubN p (largN m code) := by
  induction h with
  | one =>
    intro i hi
    have : i < 1 := bit_lt (n := 1) (by decide) hi
    obtain rfl : i = 0 := by omega
    exact itL_zero (hc 0 hi) 4096
  | @next c y hE hy ih =>
    have ih := ih (fun i hi => hc i (by rw [Nat.testBit_or, hi]; rfl))
    intro i hi
    rw [Nat.testBit_or, Bool.or_eq_true] at hi
    rcases hi with hi | hi
    · exact ih i hi
    · rw [Nat.testBit_two_pow] at hi
      have : y = i := by simpa using hi
      subst this
      cases hl : (largN m code).testBit y
      · have h1 := nex_up ok (hE.lt ok) (largN_lt ok code) ih hy hl
        have h2 := largN_fix ok code
        have h3 : (nexN m (largN m code) &&& code).testBit y = true := by
          rw [Nat.testBit_and, h1, hc y (by rw [Nat.testBit_or, Nat.testBit_two_pow]; simp)]; rfl
        rw [h2] at h3; simp at h3
      · rfl
theorem ent_iff {m : Mz} (ok : MzOk m) {c : Nat} (h0 : c.testBit 0 = true) : EntS m c ↔ largN m c = c := by
  constructor
  · intro h
    exact SubN.antisymm (larg_sub 4096) (ent_sub ok h (fun i hi => hi))
  · intro h
    have := ent_it ok h0 4096
    rw [show itL m c 4096 = c from h] at this
    exact this
theorem ent_size {m : Mz} (ok : MzOk m) {c i : Nat} (h : EntS m c) (hi : c.testBit i = true) : (i : Int) < m.size := by
  induction h with
  | one =>
    have : i < 1 := bit_lt (n := 1) (by decide) hi
    have := ok.s1
    omega
  | @next c y hE hy ih =>
    rw [Nat.testBit_or, Bool.or_eq_true] at hi
    rcases hi with hi | hi
    · exact ih hi
    · rw [Nat.testBit_two_pow] at hi
      have : y = i := by simpa using hi
      subst this
      exact nexN_size ok (hE.lt ok) hy
/-! ### Rows in order -/
def cmpR (a b : List Int) : Int := match a, b with
  | [], [] => 0
  | [], _ :: _ => -1
  | _ :: _, [] => 1
  | x :: a, y :: b => if cmpI x y = 0 then cmpR a b else cmpI x y
def cmpLR (a b : List Int) : Int := orI [cmpI a.length b.length, cmpR a b]
theorem cmpI_range (a b : Int) : cmpI a b = -1 ∨ cmpI a b = 0 ∨ cmpI a b = 1 := by unfold cmpI; split <;> (try split) <;> simp
theorem cmpI_swap (a b : Int) : cmpI b a = -cmpI a b := by unfold cmpI; split <;> split <;> (try split) <;> omega
theorem cmpR_swap : ∀ a b : List Int, cmpR b a = -cmpR a b
  | [], [] => rfl
  | [], _ :: _ => rfl
  | _ :: _, [] => rfl
  | x :: a, y :: b => by
    simp only [cmpR]
    rw [cmpI_swap x y, cmpR_swap a b]
    by_cases h : cmpI x y = 0
    · rw [if_pos h, if_pos (by omega)]
    · rw [if_neg h, if_neg (by omega)]
theorem cmpR_zero : ∀ {a b : List Int}, cmpR a b = 0 → a = b
  | [], [], _ => rfl
  | [], _ :: _, h => by simp [cmpR] at h
  | _ :: _, [], h => by simp [cmpR] at h
  | x :: a, y :: b, h => by
    simp only [cmpR] at h
    by_cases e : cmpI x y = 0
    · rw [if_pos e] at h
      rw [cmpI_zero.1 e, cmpR_zero h]
    · rw [if_neg e] at h; exact absurd h e
theorem cmpR_refl : ∀ a : List Int, cmpR a a = 0
  | [] => rfl
  | x :: a => by simp only [cmpR]; rw [if_pos (cmpI_zero.2 rfl), cmpR_refl a]
theorem cmpR_trans : ∀ {a b c : List Int}, cmpR a b < 0 → cmpR b c < 0 → cmpR a c < 0
  | [], [], _, h, _ => by simp [cmpR] at h
  | [], _ :: _, [], _, h => by simp [cmpR] at h
  | [], _ :: _, _ :: _, _, _ => by simp [cmpR]
  | _ :: _, [], _, h, _ => by simp [cmpR] at h
  | _ :: _, _ :: _, [], _, h => by simp [cmpR] at h
  | x :: a, y :: b, z :: c, h1, h2 => by
    simp only [cmpR] at *
    rcases cmpI_range x y with e1 | e1 | e1
    · have l1 := cmpI_neg.1 (show cmpI x y < 0 by omega)
      have : cmpI y z ≤ 0 := by split at h2 <;> omega
      have l2 : y ≤ z := by
        rcases Int.lt_or_le z y with h | h
        · have := cmpI_neg.2 h; rw [cmpI_swap y z] at this; omega
        · exact h
      have := cmpI_neg.2 (show x < z by omega)
      rw [if_neg (by omega)]; exact this
    · have := cmpI_zero.1 e1
      subst this
      rw [if_pos e1] at h1
      split at h2
      · rename_i e2
        rw [if_pos e2]; exact cmpR_trans h1 h2
      · rename_i e2
        rw [if_neg e2]; exact h2
    · rw [if_neg (by omega)] at h1; omega
def ltL (a b : List Int) : Bool := decide (cmpLR a b < 0)
theorem cmpLR_eq (a b : List Int) : cmpLR a b = if cmpI a.length b.length = 0 then cmpR a b else cmpI a.length b.length := by
  simp only [cmpLR, orI]
  by_cases h : cmpI (a.length : Int) b.length = 0
  · rw [if_pos h]; simp [h]; intro h2; omega
  · rw [if_neg h]; simp [h]
theorem cmpLR_swap (a b : List Int) : cmpLR b a = -cmpLR a b := by
  rw [cmpLR_eq, cmpLR_eq, cmpI_swap (a.length : Int) b.length, cmpR_swap a b]
  by_cases h : cmpI (a.length : Int) b.length = 0
  · rw [if_pos h, if_pos (by omega)]
  · rw [if_neg h, if_neg (by omega)]
theorem cmpLR_zero {a b : List Int} (h : cmpLR a b = 0) : a = b := by
  rw [cmpLR_eq] at h
  split at h
  · exact cmpR_zero h
  · contradiction
theorem ltL_irrefl (a : List Int) : ltL a a = false := by
  unfold ltL
  rw [cmpLR_eq, if_pos (cmpI_zero.2 rfl), cmpR_refl]; rfl
theorem ltL_trans {a b c : List Int} (h1 : ltL a b = true) (h2 : ltL b c = true) : ltL a c = true := by
  simp only [ltL, decide_eq_true_eq, cmpLR_eq] at *
  rcases cmpI_range (a.length : Int) b.length with e1 | e1 | e1
  · have l1 := cmpI_neg.1 (show cmpI (a.length : Int) b.length < 0 by omega)
    have : cmpI (b.length : Int) c.length ≤ 0 := by split at h2 <;> omega
    have l2 : (b.length : Int) ≤ c.length := by
      rcases Int.lt_or_le (c.length : Int) b.length with h | h
      · have := cmpI_neg.2 h; rw [cmpI_swap (b.length : Int) c.length] at this; omega
      · exact h
    have := cmpI_neg.2 (show (a.length : Int) < c.length by omega)
    rw [if_neg (by omega)]; exact this
  · have e := cmpI_zero.1 e1
    rw [if_pos e1] at h1
    rw [e]
    split at h2
    · rename_i e2
      rw [if_pos e2]; exact cmpR_trans h1 h2
    · rename_i e2
      rw [if_neg e2]; exact h2
  · rw [if_neg (by omega)] at h1; omega
theorem ltL_asymm {a b : List Int} (h : ltL a b = true) : ltL b a = false := by
  simp only [ltL, decide_eq_true_eq, decide_eq_false_iff_not] at *
  rw [cmpLR_swap a b]; omega
theorem ltL_tot {a b : List Int} (h1 : ltL a b = false) (h2 : ltL b a = false) : a = b := by
  simp only [ltL, decide_eq_false_iff_not] at *
  rw [cmpLR_swap a b] at h2
  exact cmpLR_zero (by omega)
theorem sortedL_ext : ∀ (a b : List (List Int)), a.Pairwise (fun x y => ltL x y = true) → b.Pairwise (fun x y => ltL x y = true) → (∀ x, x ∈ a ↔ x ∈ b) → a = b
  | [], [], _, _, _ => rfl
  | [], y :: b, _, _, h => absurd ((h y).2 (by simp)) (by simp)
  | x :: a, [], _, _, h => absurd ((h x).1 (by simp)) (by simp)
  | x :: a, y :: b, ha, hb, h => by
    rw [List.pairwise_cons] at ha hb
    have hxy : x = y := by
      rcases List.mem_cons.1 ((h x).1 (by simp)) with e | e
      · exact e
      · rcases List.mem_cons.1 ((h y).2 (by simp)) with e' | e'
        · exact e'.symm
        · have h1 := hb.1 x e; have h2 := ha.1 y e'
          rw [ltL_asymm h1] at h2; cases h2
    subst hxy
    congr 1
    refine sortedL_ext a b ha.2 hb.2 fun z => ⟨fun hz => ?_, fun hz => ?_⟩
    · rcases List.mem_cons.1 ((h z).1 (by simp [hz])) with e | e
      · have := ha.1 z hz; rw [e, ltL_irrefl] at this; cases this
      · exact e
    · rcases List.mem_cons.1 ((h z).2 (by simp [hz])) with e | e
      · have := hb.1 z hz; rw [e, ltL_irrefl] at this; cases this
      · exact e
/-- A row put to its place, from the end on. -/
def insAt (L : List Int) (A : List (List Int)) : Nat → Nat
  | 0 => 0
  | k + 1 => if ltL L A[k]! then insAt L A k else k + 1
def insL (A : List (List Int)) (L : List Int) : List (List Int) := A.take (insAt L A A.length) ++ L :: A.drop (insAt L A A.length)
theorem insAt_le (L : List Int) (A : List (List Int)) : ∀ k, insAt L A k ≤ k
  | 0 => Nat.le_refl _
  | k + 1 => by have := insAt_le L A k; unfold insAt; split <;> omega
theorem insAt_lt {L : List Int} {A : List (List Int)} : ∀ k q, insAt L A k ≤ q → q < k → ltL L A[q]! = true
  | 0, q, _, h => by omega
  | k + 1, q, h1, h2 => by
    unfold insAt at h1
    split at h1
    · rename_i h
      by_cases e : q = k
      · subst e; exact h
      · exact insAt_lt k q h1 (by omega)
    · omega
theorem insAt_ge {L : List Int} {A : List (List Int)} : ∀ k, 0 < insAt L A k → ltL L A[insAt L A k - 1]! = false
  | 0, h => by simp [insAt] at h
  | k + 1, h => by
    unfold insAt at h ⊢
    split
    · rename_i e
      rw [if_pos e] at h
      exact insAt_ge k h
    · rename_i e
      simpa using e
theorem mem_insL {A : List (List Int)} {L x : List Int} : x ∈ insL A L ↔ x = L ∨ x ∈ A := by
  unfold insL
  rw [List.mem_append, List.mem_cons]
  conv => rhs; rw [← List.take_append_drop (insAt L A A.length) A, List.mem_append]
  constructor
  · rintro (h | h | h) <;> simp [h]
  · rintro (h | h | h) <;> simp [h]
theorem insL_sorted {A : List (List Int)} {L : List Int} (h : A.Pairwise (fun x y => ltL x y = true)) (hn : L ∉ A) : (insL A L).Pairwise (fun x y => ltL x y = true) := by
  have hle := insAt_le L A A.length
  have hA := h
  rw [← List.take_append_drop (insAt L A A.length) A, List.pairwise_append] at h
  obtain ⟨h1, h2, h3⟩ := h
  have hd : ∀ y ∈ A.drop (insAt L A A.length), ltL L y = true := by
    intro y hy
    obtain ⟨i, hi, rfl⟩ := List.mem_iff_getElem.1 hy
    rw [List.length_drop] at hi
    have := insAt_lt (L := L) (A := A) A.length (insAt L A A.length + i) (by omega) (by omega)
    rw [getElem!_pos A _ (by omega)] at this
    rw [List.getElem_drop]; exact this
  have ht : ∀ y ∈ A.take (insAt L A A.length), ltL y L = true := by
    intro y hy
    have hyA : y ∈ A := List.mem_of_mem_take hy
    obtain ⟨i, hi, rfl⟩ := List.mem_iff_getElem.1 hy
    rw [List.length_take] at hi
    have hpos : 0 < insAt L A A.length := by omega
    have hg := insAt_ge A.length hpos
    obtain ⟨p, hp⟩ : ∃ p, p = insAt L A A.length - 1 := ⟨_, rfl⟩
    rw [← hp] at hg
    have hlast : ltL A[p]! L = true := by
      cases h5 : ltL A[p]! L
      · have := ltL_tot h5 hg
        exact absurd (by rw [← this, getElem!_pos A p (by omega)]; exact List.getElem_mem _) hn
      · rfl
    rw [List.getElem_take]
    by_cases e : i = p
    · subst e
      rw [getElem!_pos A i (by omega)] at hlast; exact hlast
    · have := List.pairwise_iff_getElem.1 hA i p (by omega) (by omega) (by omega)
      rw [getElem!_pos A p (by omega)] at hlast
      exact ltL_trans this hlast
  unfold insL
  rw [List.pairwise_append, List.pairwise_cons]
  refine ⟨h1, ⟨hd, h2⟩, fun a ha b hb => ?_⟩
  rcases List.mem_cons.1 hb with rfl | hb
  · exact ht a ha
  · exact h3 a ha b hb
theorem insL_len (A : List (List Int)) (L : List Int) : (insL A L).length = A.length + 1 := by
  have := insAt_le L A A.length
  unfold insL
  rw [List.length_append, List.length_take, List.length_cons, List.length_drop]; omega
/-- Rows put to their places one after another. -/
def insAll (Ls : List (List Int)) : List (List Int) := Ls.foldl insL []
theorem insAll_snoc (Ls : List (List Int)) (L : List Int) : insAll (Ls ++ [L]) = insL (insAll Ls) L := by unfold insAll; rw [List.foldl_append]; rfl
theorem foldl_insL : ∀ (Ls A : List (List Int)), A.Pairwise (fun x y => ltL x y = true) → (∀ L ∈ Ls, L ∉ A) → Ls.Nodup → (Ls.foldl insL A).Pairwise (fun x y => ltL x y = true) ∧ ∀ x, x ∈ Ls.foldl insL A ↔ x ∈ A ∨ x ∈ Ls
  | [], A, h, _, _ => ⟨h, fun x => by simp⟩
  | L :: Ls, A, h, h1, h2 => by
    rw [List.nodup_cons] at h2
    have := foldl_insL Ls (insL A L) (insL_sorted h (h1 L (by simp))) (fun M hM hin => by
      rcases mem_insL.1 hin with rfl | hin
      · exact h2.1 hM
      · exact h1 M (by simp [hM]) hin) h2.2
    refine ⟨this.1, fun x => ?_⟩
    rw [List.foldl_cons, this.2, mem_insL, List.mem_cons]
    constructor
    · rintro ((h | h) | h) <;> simp [h]
    · rintro (h | h | h) <;> simp [h]
theorem insAll_ok {Ls : List (List Int)} (h : Ls.Nodup) : (insAll Ls).Pairwise (fun x y => ltL x y = true) ∧ ∀ x, x ∈ insAll Ls ↔ x ∈ Ls := by
  have := foldl_insL Ls [] List.Pairwise.nil (fun L _ => by simp) h
  exact ⟨this.1, fun x => by rw [insAll, this.2]; simp⟩
theorem insAll_len (Ls : List (List Int)) : (insAll Ls).length = Ls.length := by
  have key : ∀ (Ls A : List (List Int)), (Ls.foldl insL A).length = A.length + Ls.length := by
    intro Ls
    induction Ls with
    | nil => intro A; simp
    | cons L Ls ih => intro A; rw [List.foldl_cons, ih, insL_len, List.length_cons]; omega
  rw [insAll, key]; simp
theorem mem_inj {a b : Nat} (ha : a < 4096) (hb : b < 4096) (h : mem a = mem b) : a = b := by
  apply SubN.antisymm
  · intro i hi
    have h1 : (i : Int) ∈ mem a := (in_mem a _).2 ⟨i, by have := bit_lt (n := 12) ha hi; omega, hi, rfl⟩
    rw [h] at h1
    obtain ⟨j, -, h2, h3⟩ := (in_mem b _).1 h1
    obtain rfl : i = j := by omega
    exact h2
  · intro i hi
    have h1 : (i : Int) ∈ mem b := (in_mem b _).2 ⟨i, by have := bit_lt (n := 12) hb hi; omega, hi, rfl⟩
    rw [← h] at h1
    obtain ⟨j, -, h2, h3⟩ := (in_mem a _).1 h1
    obtain rfl : i = j := by omega
    exact h2
/-- The first k odd numbers that are entry sets. -/
def entK (m : Mz) (k : Nat) : List Nat := ((List.range k).map fun t => 2 * t + 1).filter fun c => largN m c == c
theorem entK_yes {m : Mz} {k : Nat} (h : largN m (2 * k + 1) = 2 * k + 1) : entK m (k + 1) = entK m k ++ [2 * k + 1] := by simp [entK, List.range_succ, List.filter_append, h]
theorem entK_no {m : Mz} {k : Nat} (h : largN m (2 * k + 1) ≠ 2 * k + 1) : entK m (k + 1) = entK m k := by simp [entK, List.range_succ, List.filter_append, h]
theorem entK_len (m : Mz) (k : Nat) : (entK m k).length ≤ k := Nat.le_trans (List.length_filter_le _ _) (by simp)
def entL (m : Mz) : List Nat := entK m (2 ^ (m.size.toNat - 1))
theorem entL_mem {m : Mz} (ok : MzOk m) {c : Nat} : c ∈ entL m ↔ EntS m c := by
  have hs1 := ok.s1
  unfold entL entK
  rw [List.mem_filter, List.mem_map]
  constructor
  · rintro ⟨⟨t, -, rfl⟩, h⟩
    have h0 : (2 * t + 1).testBit 0 = true := by rw [Nat.testBit_zero]; simp
    exact (ent_iff ok h0).2 (by simpa using h)
  · intro h
    have h0 := h.zero
    have h1 : c % 2 = 1 := by rw [Nat.testBit_zero] at h0; simpa using h0
    have h2 : c < 2 ^ m.size.toNat := lt_of_bits fun i hi => by have := ent_size ok h hi; omega
    have h3 : 2 ^ m.size.toNat = 2 * 2 ^ (m.size.toNat - 1) := by
      rw [← Nat.pow_succ']; congr 1; omega
    exact ⟨⟨c / 2, List.mem_range.2 (by omega), by omega⟩, by simpa using (ent_iff ok h0).1 h⟩
theorem entK_nodup (m : Mz) (k : Nat) : (entK m k).Nodup := by
  unfold entK
  refine List.Pairwise.filter _ ?_
  rw [List.pairwise_map]
  exact (List.nodup_range (n := k)).imp fun h e => h (by omega)
/-- The rows of an answer: sets as lists, in order. -/
def rowsO (E : List Nat) : List (List Int) := insAll (E.map mem)
theorem rowsO_ext {E F : List Nat} (hE : E.Nodup) (hF : F.Nodup) (h1 : ∀ c ∈ E, c < 4096) (h2 : ∀ c ∈ F, c < 4096) (h : ∀ c, c ∈ E ↔ c ∈ F) : rowsO E = rowsO F := by
  have nd : ∀ G : List Nat, G.Nodup → (∀ c ∈ G, c < 4096) → (G.map mem).Nodup := by
    intro G hG hl
    unfold List.Nodup
    rw [List.pairwise_map]
    exact List.Pairwise.imp_of_mem (fun {a b} ha hb hne e => hne (mem_inj (hl a ha) (hl b hb) e)) hG
  have a1 := insAll_ok (nd E hE h1)
  have a2 := insAll_ok (nd F hF h2)
  refine sortedL_ext _ _ a1.1 a2.1 fun x => ?_
  unfold rowsO
  rw [a1.2, a2.2, List.mem_map, List.mem_map]
  constructor
  · rintro ⟨c, hc, rfl⟩; exact ⟨c, (h c).1 hc, rfl⟩
  · rintro ⟨c, hc, rfl⟩; exact ⟨c, (h c).2 hc, rfl⟩
noncomputable def pEntrySets (m : Mz) : List (List Int) × Bool := if mazeB m && decide (m.size ≤ 8) then (rowsO (entL m), true) else ([], false)
end Go.KD
