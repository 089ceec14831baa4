/- The reference's table of entry orders: which places are not zero, and how great the numbers get. Plain words. -/
import Derived.Test.YtldogbahbjompaaKdSets0
set_option linter.unusedVariables false
set_option linter.unusedSimpArgs false
namespace Go.KD
open Go.RowKit
theorem xor_bit (c y i : Nat) : (c ^^^ 2 ^ y).testBit i = (c.testBit i != decide (y = i)) := by rw [Nat.testBit_xor, Nat.testBit_two_pow]
theorem filter_one {p q : Nat → Bool} {y : Nat} (hp : p y = true) (hq : q y = false) (h : ∀ i, i ≠ y → p i = q i) : ∀ n, y < n → ((List.range n).filter p).length = ((List.range n).filter q).length + 1
  | 0, hy => by omega
  | n + 1, hy => by
    rw [List.range_succ, List.filter_append, List.filter_append, List.length_append, List.length_append]
    by_cases e : y = n
    · subst e
      have : (List.range y).filter p = (List.range y).filter q := by
        apply List.filter_congr
        intro i hi
        exact h i (by have := List.mem_range.1 hi; omega)
      rw [this]
      simp [hp, hq]
    · have ih := filter_one hp hq h n (by omega)
      have : p n = q n := h n (by omega)
      have e2 : ([n].filter p).length = ([n].filter q).length := by simp [List.filter_cons, this]
      omega
theorem popN_xor {c y : Nat} (hy : y < 12) (h : c.testBit y = true) : popN c = popN (c ^^^ 2 ^ y) + 1 := by
  unfold popN
  refine filter_one (y := y) h (by rw [xor_bit, h]; simp) (fun i hi => ?_) 12 hy
  rw [xor_bit]
  have : decide (y = i) = false := by simp; omega
  rw [this]; simp
def sumN12 (f : Nat → Nat) : Nat → Nat
  | 0 => 0
  | n + 1 => sumN12 f n + f n
theorem sumN12_le {f g : Nat → Nat} : ∀ n, (∀ i, i < n → f i ≤ g i) → sumN12 f n ≤ sumN12 g n
  | 0, _ => Nat.le_refl _
  | n + 1, h => by have := sumN12_le n (fun i hi => h i (by omega)); have := h n (by omega); simp only [sumN12]; omega
theorem sumN12_add {f g : Nat → Nat} {y a : Nat} (h : ∀ i, f i ≤ g i) (hy : f y + a ≤ g y) : ∀ n, y < n → sumN12 f n + a ≤ sumN12 g n
  | 0, hn => by omega
  | n + 1, hn => by
    simp only [sumN12]
    by_cases e : y = n
    · subst e
      have := sumN12_le (f := f) (g := g) y (fun i _ => h i); omega
    · have := sumN12_add h hy n (by omega); have := h n; omega
theorem sumN12_max {f : Nat → Nat} {b : Nat} (h : ∀ i, f i ≤ b) : ∀ n, sumN12 f n ≤ n * b
  | 0 => by simp [sumN12]
  | n + 1 => by have := sumN12_max h n; have := h n; simp only [sumN12, Nat.succ_mul]; omega
theorem set_at5 {l : List Int} {i j : Nat} {v : Int} (hi : i < l.length) : (l.set i v)[j]! = if j = i then v else l[j]! := by
  by_cases h : j = i
  · subst h
    rw [if_pos rfl, getElem!_pos _ j (by simpa using hi)]; simp
  · rw [if_neg h, getElem!_def, getElem!_def, List.getElem?_set_ne (by omega)]
/-- What has come to a place, at most. -/
def ctr (D : Nat → Nat → Prop) [∀ p y, Decidable (D p y)] (c y : Nat) : Nat := if c.testBit y = true ∧ D (c ^^^ 2 ^ y) y then 13 ^ popN (c ^^^ 2 ^ y) else 0
/-- The steps that the table has taken: those from sets below k, and of those from k the first i. -/
def DnT (m : Mz) (k i p y : Nat) : Prop := p < k ∨ (p = k ∧ (y : Int) ∈ (mem (nexN m k)).take i)
instance (m : Mz) (k i p y : Nat) : Decidable (DnT m k i p y) := by unfold DnT; exact inferInstance
def capT (m : Mz) (k i c : Nat) : Nat := sumN12 (ctr (DnT m k i) c) 12 + if c = 1 then 1 else 0
structure T5 (m : Mz) (k i : Nat) (T : List Int) : Prop where
  len : T.length = 2 ^ m.size.toNat
  lo : ∀ c, c < T.length → 0 ≤ T[c]!
  up : ∀ c, c < T.length → T[c]! ≤ (capT m k i c : Int)
  pos : ∀ c, c < T.length → (0 < T[c]! ↔ c = 1 ∨ ∃ p y, DnT m k i p y ∧ EntS m p ∧ (nexN m p).testBit y = true ∧ c = p ||| 2 ^ y)
theorem or_grow {p y : Nat} (h : p.testBit y = false) : p < p ||| 2 ^ y := by
  have h1 : p ≤ p ||| 2 ^ y := Nat.left_le_or
  rcases Nat.lt_or_ge p (p ||| 2 ^ y) with h2 | h2
  · exact h2
  · have e : p ||| 2 ^ y = p := by omega
    have := congrArg (fun z => Nat.testBit z y) e
    simp only [Nat.testBit_or, Nat.testBit_two_pow, h] at this
    simp at this
theorem or_back {p y : Nat} (h : p.testBit y = false) : (p ||| 2 ^ y) ^^^ 2 ^ y = p := by
  apply Nat.eq_of_testBit_eq
  intro i
  rw [xor_bit, Nat.testBit_or, Nat.testBit_two_pow]
  by_cases e : y = i
  · subst e; rw [h]; simp
  · simp [e]
theorem T5.here {m : Mz} (ok : MzOk m) {k : Nat} {T : List Int} (h : T5 m k 0 T) (hk : k < T.length) : 0 < T[k]! ↔ EntS m k := by
  rw [h.pos k hk]
  constructor
  · rintro (rfl | ⟨p, y, -, hE, hy, rfl⟩)
    · exact EntS.one
    · exact EntS.next hE hy
  · intro hE
    cases hE with
    | one => exact .inl rfl
    | @next c y hE hy =>
      have hn := ((nexN_bit ok (hE.lt ok) y).1 hy).1
      exact .inr ⟨c, y, .inl (or_grow hn), hE, hy, rfl⟩
theorem ctr_mono {D E : Nat → Nat → Prop} [∀ p y, Decidable (D p y)] [∀ p y, Decidable (E p y)] (h : ∀ p y, D p y → E p y) (c y : Nat) : ctr D c y ≤ ctr E c y := by
  unfold ctr
  split
  · rename_i h1
    rw [if_pos ⟨h1.1, h _ _ h1.2⟩]; exact Nat.le_refl _
  · exact Nat.zero_le _
theorem capT_mono {m : Mz} {k i k' i' : Nat} (h : ∀ p y, DnT m k i p y → DnT m k' i' p y) (c : Nat) : capT m k i c ≤ capT m k' i' c := by
  unfold capT
  have := sumN12_le (f := ctr (DnT m k i) c) (g := ctr (DnT m k' i') c) 12 (fun y _ => ctr_mono h c y)
  omega
theorem popN_pos {c : Nat} (h : c.testBit 0 = true) : 0 < popN c := by
  have := popN_xor (c := c) (y := 0) (by omega) h
  omega
theorem capT_le (m : Mz) (k i : Nat) {c : Nat} (hc : c < 4096) (h0 : c.testBit 0 = true) : capT m k i c ≤ 13 ^ popN c := by
  obtain ⟨n, hn⟩ : ∃ n, popN c = n + 1 := ⟨popN c - 1, by have := popN_pos h0; omega⟩
  have h1 : ∀ y, ctr (DnT m k i) c y ≤ 13 ^ n := by
    intro y
    unfold ctr
    split
    · rename_i h
      have hy := bit_lt (n := 12) hc h.1
      have := popN_xor hy h.1
      have : popN (c ^^^ 2 ^ y) = n := by omega
      rw [this]; exact Nat.le_refl _
    · exact Nat.zero_le _
  have h2 := sumN12_max h1 12
  have h3 : 0 < 13 ^ n := Nat.pow_pos (by decide)
  unfold capT
  rw [hn, Nat.pow_succ]
  split <;> omega
theorem capT_max (m : Mz) (k i : Nat) {c : Nat} (hc : c < 4096) (h0 : c.testBit 0 = true) : capT m k i c ≤ 23298085122481 :=
  Nat.le_trans (capT_le m k i hc h0) (Nat.le_trans (Nat.pow_le_pow_right (by omega) (popN_le c)) (by decide))
/-- One step more. -/
theorem T5.add {m : Mz} (ok : MzOk m) {k i : Nat} {T : List Int} (h : T5 m k i T) (hE : EntS m k) (hk : k < T.length) (hi : i < (mem (nexN m k)).length) :
    ∃ y : Nat, (mem (nexN m k))[i]! = (y : Int) ∧ (nexN m k).testBit y = true ∧ y < 12 ∧ k ||| 2 ^ y < T.length ∧ k < k ||| 2 ^ y ∧ (k ||| 2 ^ y).testBit 0 = true ∧ (0 < T[k]! → T[k]! ≤ (13 ^ popN k : Nat) → T5 m k (i + 1) (T.set (k ||| 2 ^ y) (T[k ||| 2 ^ y]! + T[k]!))) := by
  have hmem : (mem (nexN m k))[i]! ∈ mem (nexN m k) := by rw [getElem!_pos _ i hi]; exact List.getElem_mem _
  obtain ⟨y, -, hy, hye⟩ := (in_mem _ _).1 hmem
  have hkl := hE.lt ok
  have hn := ((nexN_bit ok hkl y).1 hy).1
  have hy12 := bit_lt (n := 12) (nexN_lt ok k) hy
  have hsz := nexN_size ok hkl hy
  have hlen := h.len
  have hcT : k ||| 2 ^ y < T.length := by
    rw [hlen] at hk ⊢
    exact Nat.or_lt_two_pow hk (Nat.pow_lt_pow_right (by omega) (by omega))
  have hgr := or_grow hn
  have hbk := or_back hn
  refine ⟨y, hye, hy, hy12, hcT, hgr, by rw [Nat.testBit_or, hE.zero]; rfl, fun hp hu => ?_⟩
  have htake : ∀ z : Nat, (z : Int) ∈ (mem (nexN m k)).take (i + 1) ↔ ((z : Int) ∈ (mem (nexN m k)).take i ∨ z = y) := by
    intro z
    rw [take_snoc hi, List.mem_append, hye, List.mem_singleton]
    constructor
    · rintro (h | h)
      · exact .inl h
      · exact .inr (by omega)
    · rintro (h | h)
      · exact .inl h
      · exact .inr (by omega)
  have hnot : ¬ (y : Int) ∈ (mem (nexN m k)).take i := by
    intro hin
    have hs := mem_sorted (nexN m k)
    obtain ⟨q, hq, hqe⟩ := List.mem_iff_getElem.1 hin
    rw [List.length_take] at hq
    rw [List.getElem_take] at hqe
    have := List.pairwise_iff_getElem.1 hs q i (by omega) hi (by omega)
    rw [getElem!_pos _ i hi] at hye
    omega
  have hD : ∀ p z, DnT m k (i + 1) p z ↔ (DnT m k i p z ∨ (p = k ∧ z = y)) := by
    intro p z
    unfold DnT
    rw [htake z]
    constructor
    · rintro (h | ⟨h1, h | h⟩)
      · exact .inl (.inl h)
      · exact .inl (.inr ⟨h1, h⟩)
      · exact .inr ⟨h1, h⟩
    · rintro ((h | ⟨h1, h⟩) | ⟨h1, h⟩)
      · exact .inl h
      · exact .inr ⟨h1, .inl h⟩
      · exact .inr ⟨h1, .inr h⟩
  have setat : ∀ c, (T.set (k ||| 2 ^ y) (T[k ||| 2 ^ y]! + T[k]!))[c]! = if c = k ||| 2 ^ y then T[k ||| 2 ^ y]! + T[k]! else T[c]! := by
    exact fun c => set_at5 hcT
  have hlo := h.lo _ hcT
  refine ⟨by rw [List.length_set]; exact hlen, fun c hc => ?_, fun c hc => ?_, fun c hc => ?_⟩
  · rw [List.length_set] at hc
    rw [setat]
    split
    · omega
    · exact h.lo c hc
  · rw [List.length_set] at hc
    rw [setat]
    split
    · rename_i e
      subst e
      have h1 := h.up _ hc
      have h2 : sumN12 (ctr (DnT m k i) (k ||| 2 ^ y)) 12 + 13 ^ popN k ≤ sumN12 (ctr (DnT m k (i + 1)) (k ||| 2 ^ y)) 12 := by
        refine sumN12_add (y := y) (fun z => ctr_mono (fun p z hz => (hD p z).2 (.inl hz)) _ z) ?_ 12 hy12
        have t1 : (k ||| 2 ^ y).testBit y = true := by rw [Nat.testBit_or, Nat.testBit_two_pow]; simp
        unfold ctr
        rw [if_neg, if_pos ⟨t1, by rw [hbk]; exact (hD k y).2 (.inr ⟨rfl, rfl⟩)⟩, hbk]
        · omega
        · rintro ⟨-, hd⟩
          rw [hbk] at hd
          rcases hd with hd | ⟨-, hd⟩
          · omega
          · exact hnot hd
      have h3 : capT m k i (k ||| 2 ^ y) + 13 ^ popN k ≤ capT m k (i + 1) (k ||| 2 ^ y) := by unfold capT; omega
      omega
    · have h1 := h.up c hc
      have h2 := capT_mono (m := m) (k := k) (i := i) (k' := k) (i' := i + 1) (fun p z hz => (hD p z).2 (.inl hz)) c
      omega
  · rw [List.length_set] at hc
    rw [setat]
    split
    · rename_i e
      constructor
      · intro _
        exact .inr ⟨k, y, (hD k y).2 (.inr ⟨rfl, rfl⟩), hE, hy, e⟩
      · intro _; omega
    · rename_i e
      rw [h.pos c hc]
      constructor
      · rintro (h1 | ⟨p, z, h1, h2⟩)
        · exact .inl h1
        · exact .inr ⟨p, z, (hD p z).2 (.inl h1), h2⟩
      · rintro (h1 | ⟨p, z, h1, h2, h3, h4⟩)
        · exact .inl h1
        · rcases (hD p z).1 h1 with h1 | ⟨rfl, rfl⟩
          · exact .inr ⟨p, z, h1, h2, h3, h4⟩
          · exact absurd h4 e
theorem T5.next {m : Mz} (ok : MzOk m) {k i : Nat} {T : List Int} (h : T5 m k i T) (hall : EntS m k → (mem (nexN m k)).length ≤ i) : T5 m (k + 1) 0 T := by
  have hD : ∀ p z, DnT m k i p z → DnT m (k + 1) 0 p z := by
    rintro p z (h | ⟨h, -⟩)
    · exact .inl (by omega)
    · exact .inl (by omega)
  refine ⟨h.len, h.lo, fun c hc => ?_, fun c hc => ?_⟩
  · have h1 := h.up c hc
    have h2 := capT_mono hD c
    omega
  · rw [h.pos c hc]
    constructor
    · rintro (h1 | ⟨p, z, h1, h2⟩)
      · exact .inl h1
      · exact .inr ⟨p, z, hD p z h1, h2⟩
    · rintro (h1 | ⟨p, z, h1, h2, h3, h4⟩)
      · exact .inl h1
      · refine .inr ⟨p, z, ?_, h2, h3, h4⟩
        rcases h1 with h1 | ⟨-, h1⟩
        · rcases Nat.lt_or_ge p k with h5 | h5
          · exact .inl h5
          · obtain rfl : p = k := by omega
            have hz := bit_lt (n := 12) (nexN_lt ok p) h3
            refine .inr ⟨rfl, ?_⟩
            rw [List.take_of_length_le (hall h2)]
            exact (in_mem _ _).2 ⟨z, by omega, h3, rfl⟩
        · simp at h1
theorem T5.start {m : Mz} (ok : MzOk m) {T : List Int} (hl : T.length = 2 ^ m.size.toNat) (h : ∀ c, c < T.length → T[c]! = if c = 1 then 1 else 0) : T5 m 1 0 T := by
  have hno : ∀ p y, DnT m 1 0 p y → ¬ EntS m p := by
    rintro p y (hp | ⟨-, hy⟩) hE
    · obtain rfl : p = 0 := by omega
      have := hE.zero; simp at this
    · simp at hy
  refine ⟨hl, fun c hc => by rw [h c hc]; split <;> omega, fun c hc => ?_, fun c hc => ?_⟩
  · rw [h c hc]
    unfold capT
    split <;> omega
  · rw [h c hc]
    constructor
    · intro h1
      split at h1
      · left; assumption
      · omega
    · rintro (rfl | ⟨p, y, h1, h2, -⟩)
      · rw [if_pos rfl]; omega
      · exact absurd h2 (hno p y h1)
theorem T5.all {m : Mz} (ok : MzOk m) {T : List Int} (h : T5 m T.length 0 T) {c : Nat} (hc : c < T.length) : 0 < T[c]! ↔ EntS m c := by
  rw [h.pos c hc]
  constructor
  · rintro (rfl | ⟨p, y, -, hE, hy, rfl⟩)
    · exact EntS.one
    · exact EntS.next hE hy
  · intro hE
    cases hE with
    | one => exact .inl rfl
    | @next p y hE hy =>
      have hn := ((nexN_bit ok (hE.lt ok) y).1 hy).1
      have := or_grow hn
      exact .inr ⟨p, y, .inl (by omega), hE, hy, rfl⟩
end Go.KD
