/- The search over openings: plain words. -/
import Derived.Test.YtbaahghfjmkeoaaKdOpn2
set_option linter.unusedVariables false
set_option linter.unusedSimpArgs false
namespace Go.KD
open Go.RowKit
/-- A list is an opening with a set. -/
def Opn (m : Mz) (L : List Int) (O : Nat) : Prop := opK m L L.length = some O
theorem opn_ok {m : Mz} (ok : MzOk m) {L : List Int} {O : Nat} (h : Opn m L O) : OpOk m O L := by
  have := opK_ok ok L.length O (Nat.le_refl _) h
  rwa [List.take_length] at this
theorem opn_nil (m : Mz) : Opn m [] 0 := rfl
theorem opn_of {m : Mz} {L : List Int} (h : opsB m L = true) : Opn m L (opN m L) := by
  unfold opsB at h
  rw [Option.isSome_iff_exists] at h
  obtain ⟨O, hO⟩ := h
  unfold Opn opN
  rw [hO]; rfl
theorem opn_N {m : Mz} {L : List Int} {O : Nat} (h : Opn m L O) : opN m L = O := by unfold opN; rw [h]; rfl
theorem opn_B {m : Mz} {L : List Int} {O : Nat} (h : Opn m L O) : opsB m L = true := by unfold opsB; rw [h]; rfl
theorem opK_app {m : Mz} {L : List Int} (k : Int) : ∀ i, i ≤ L.length → opK m (L ++ [k]) i = opK m L i
  | 0, _ => rfl
  | i + 1, hi => by
    have ih := opK_app (m := m) (L := L) k i (by omega)
    show (match opK m (L ++ [k]) i with | none => none | some O => if hasI (nextL m O ((L ++ [k]).take i)) (L ++ [k])[i]! then some (setN O (L ++ [k])[i]!) else none) = _
    rw [ih]
    have e1 : (L ++ [k]).take i = L.take i := by rw [List.take_append_of_le_length (by omega)]
    have e2 : (L ++ [k])[i]! = L[i]! := by rw [getElem!_pos (L ++ [k]) i (by simp; omega), getElem!_pos L i (by omega), List.getElem_append_left]
    rw [e1, e2]
    rfl
theorem opn_snoc {m : Mz} {L : List Int} {O : Nat} {k : Int} (h : Opn m L O) (hk : hasI (nextL m O L) k = true) : Opn m (L ++ [k]) (setN O k) := by
  unfold Opn at *
  rw [List.length_append, List.length_singleton, opK_step (O := O) (by rw [opK_app k _ (Nat.le_refl _)]; exact h)]
  have e1 : (L ++ [k]).take L.length = L := by simp
  have e2 : (L ++ [k])[L.length]! = k := by rw [getElem!_pos _ _ (by simp)]; simp
  rw [e1, e2, hk]; rfl
theorem opn_len {m : Mz} (ok : MzOk m) {L : List Int} {O : Nat} (h : Opn m L O) : L.length ≤ 30 := op_len ok (opn_ok ok h)
theorem opK_lock {m : Mz} {L : List Int} : ∀ i O, opK m L i = some O → ∀ j, O.testBit j = true → isLock m.doors j = true
  | 0, O, h, j, hj => by
    have : O = 0 := by simpa [opK] using h.symm
    subst this; simp at hj
  | i + 1, O, h, j, hj => by
    cases h' : opK m L i with
    | none => have := opK_none h' 1; rw [this] at h; cases h
    | some O' =>
      rw [opK_step h'] at h
      cases hh : hasI (nextL m O' (L.take i)) L[i]!
      · rw [hh] at h; cases h
      · rw [hh, if_pos rfl] at h
        cases h
        rw [hasI_iff] at hh
        obtain ⟨k, hk, hl, hc, he⟩ := in_nextK.1 hh
        rw [he, setN_bit] at hj
        rw [Bool.or_eq_true] at hj
        rcases hj with hj | hj
        · exact opK_lock i O' h' j hj
        · have : k = j := by simpa using hj
          rw [← this]; exact hl
theorem opn_lock {m : Mz} {L : List Int} {O : Nat} (h : Opn m L O) : ∀ j, O.testBit j = true → isLock m.doors j = true := opK_lock _ _ h
/-! Codes -/
def cdK (lk : List Int) (f : Int → Bool) : Nat → Nat
  | 0 => 0
  | i + 1 => if f lk[i]! then cdK lk f i ||| 2 ^ i else cdK lk f i
def cdF (m : Mz) (f : Int → Bool) : Nat := cdK (locksI m) f (locksI m).length
theorem cdK_bit (lk : List Int) (f : Int → Bool) : ∀ n i, (cdK lk f n).testBit i = (decide (i < n) && f lk[i]!)
  | 0, i => by simp [cdK]
  | n + 1, i => by
    have ih := cdK_bit lk f n i
    unfold cdK
    by_cases h : i < n
    · have h1 : n ≠ i := by omega
      split <;> simp [ih, Nat.testBit_or, Nat.testBit_two_pow, h, h1, show i < n + 1 from by omega]
    · by_cases h1 : n = i
      · subst h1
        have h2 : (cdK lk f n).testBit n = false := by rw [ih]; simp
        cases hf : f lk[n]!
        · rw [if_neg (by simp)]; simp [h2]
        · rw [if_pos rfl, Nat.testBit_or, h2, Nat.testBit_two_pow]; simp
      · split <;> simp [ih, Nat.testBit_or, Nat.testBit_two_pow, h, h1, show ¬ i < n + 1 from by omega]
theorem cdK_lt (lk : List Int) (f : Int → Bool) : ∀ n, cdK lk f n < 2 ^ n
  | 0 => by simp [cdK]
  | n + 1 => by
    have ih := cdK_lt lk f n
    have h2 : cdK lk f n < 2 ^ (n + 1) := Nat.lt_of_lt_of_le ih (Nat.pow_le_pow_right (by omega) (by omega))
    unfold cdK
    split
    · exact Nat.or_lt_two_pow h2 (Nat.pow_lt_pow_right (by omega) (by omega))
    · exact h2
theorem cdK_congr (lk : List Int) {f g : Int → Bool} : ∀ n, (∀ i, i < n → f lk[i]! = g lk[i]!) → cdK lk f n = cdK lk g n
  | 0, _ => rfl
  | n + 1, h => by
    unfold cdK
    rw [cdK_congr lk n (fun i hi => h i (by omega)), h n (by omega)]
def cdO (m : Mz) (O : Nat) : Nat := cdF m (fun x => O.testBit x.toNat)
theorem lock_mem {m : Mz} {j : Nat} : (j : Int) ∈ locksI m ↔ j < m.doors.length ∧ isLock m.doors j = true := by
  unfold locksI locksK
  simp only [List.mem_map, List.mem_filter, List.mem_range]
  constructor
  · rintro ⟨a, ⟨h1, h2⟩, h3⟩
    have : a = j := by omega
    subst this; exact ⟨h1, h2⟩
  · rintro ⟨h1, h2⟩; exact ⟨j, ⟨h1, h2⟩, rfl⟩
theorem cd_set {m : Mz} (ok : MzOk m) {L : List Int} {O : Nat} (h : OpOk m O L) : cdF m (hasI L) = cdO m O := by
  unfold cdO cdF
  refine cdK_congr _ _ fun i hi => ?_
  obtain ⟨j, hj, hjl⟩ := locks_at hi
  rw [hj, op_hasB ok h j hjl, Int.toNat_natCast]
theorem cdO_inj {m : Mz} {O O' : Nat} (h : ∀ j, O.testBit j = true → j < m.doors.length ∧ isLock m.doors j = true) (h' : ∀ j, O'.testBit j = true → j < m.doors.length ∧ isLock m.doors j = true) (he : cdO m O = cdO m O') : O = O' := by
  have key : ∀ j : Nat, (j : Int) ∈ locksI m → O.testBit j = O'.testBit j := by
    intro j hj
    obtain ⟨i, hi, he2⟩ := List.mem_iff_getElem.1 hj
    have := congrArg (fun c => Nat.testBit c i) he
    simp only [cdO, cdF, cdK_bit, hi, decide_true, Bool.true_and] at this
    rw [getElem!_pos _ i hi, he2, Int.toNat_natCast] at this
    exact this
  apply Nat.eq_of_testBit_eq
  intro j
  by_cases hj : (j : Int) ∈ locksI m
  · exact key j hj
  · have n1 : O.testBit j = false := by
      cases hb : O.testBit j
      · rfl
      · exact absurd (lock_mem.2 (h j hb)) hj
    have n2 : O'.testBit j = false := by
      cases hb : O'.testBit j
      · rfl
      · exact absurd (lock_mem.2 (h' j hb)) hj
    rw [n1, n2]
theorem opn_bits {m : Mz} (ok : MzOk m) {L : List Int} {O : Nat} (h : Opn m L O) : ∀ j, O.testBit j = true → j < m.doors.length ∧ isLock m.doors j = true := fun j hj => ⟨(opn_ok ok h).lt j hj, opn_lock h j hj⟩
theorem cd_eq {m : Mz} (ok : MzOk m) {L L' : List Int} {O O' : Nat} (h : Opn m L O) (h' : Opn m L' O') : (cdF m (hasI L) = cdF m (hasI L')) ↔ O = O' := by
  rw [cd_set ok (opn_ok ok h), cd_set ok (opn_ok ok h')]
  exact ⟨fun e => cdO_inj (opn_bits ok h) (opn_bits ok h') e, fun e => by rw [e]⟩
theorem nodup_lt {l : List Nat} {n : Nat} (hn : l.Nodup) (h : ∀ x ∈ l, x < n) : l.length ≤ n := by
  have hp : l.Perm ((List.range n).filter fun x => l.contains x) := by
    refine (List.perm_ext_iff_of_nodup hn (List.Pairwise.filter _ List.nodup_range)).2 fun x => ?_
    simp only [List.mem_filter, List.mem_range, List.contains_iff_mem]
    exact ⟨fun hx => ⟨h x hx, hx⟩, fun hx => hx.2⟩
  rw [hp.length_eq]
  exact Nat.le_trans (List.length_filter_le _ _) (by simp)
/-! The search -/
abbrev En := List Int × Nat
def addE (L : List Int) (O : Nat) (E : List En) (k : Int) : List En := if E.any (fun e => e.2 == setN O k) then E else E ++ [(L ++ [k], setN O k)]
def expJ (m : Mz) (E : List En) (i j : Nat) : List En := ((nextL m (E[i]!).2 (E[i]!).1).take j).foldl (addE (E[i]!).1 (E[i]!).2) E
def expE (m : Mz) (E : List En) (i : Nat) : List En := expJ m E i (nextL m (E[i]!).2 (E[i]!).1).length
def srE (m : Mz) (E0 : List En) : Nat → List En
  | 0 => E0
  | i + 1 => if i < (srE m E0 i).length then expE m (srE m E0 i) i else srE m E0 i
def srF (m : Mz) (E0 : List En) : List En := srE m E0 1024
structure SrOk (m : Mz) (E : List En) : Prop where
  all : ∀ e ∈ E, Opn m e.1 e.2
  nd : (E.map (·.2)).Nodup
theorem addE_pre (L : List Int) (O : Nat) (E : List En) (k : Int) : E <+: addE L O E k := by
  unfold addE; split
  · exact List.prefix_refl _
  · exact List.prefix_append _ _
theorem fold_pre (L : List Int) (O : Nat) : ∀ (l : List Int) (E : List En), E <+: l.foldl (addE L O) E
  | [], E => List.prefix_refl _
  | k :: l, E => (addE_pre L O E k).trans (fold_pre L O l _)
theorem expJ_pre (m : Mz) (E : List En) (i j : Nat) : E <+: expJ m E i j := fold_pre _ _ _ _
theorem srE_pre1 (m : Mz) (E0 : List En) (i : Nat) : srE m E0 i <+: srE m E0 (i + 1) := by
  show _ <+: (if i < (srE m E0 i).length then expE m (srE m E0 i) i else srE m E0 i)
  split
  · exact expJ_pre _ _ _ _
  · exact List.prefix_refl _
theorem srE_pre (m : Mz) (E0 : List En) (i : Nat) : ∀ d, srE m E0 i <+: srE m E0 (i + d)
  | 0 => List.prefix_refl _
  | d + 1 => (srE_pre m E0 i d).trans (srE_pre1 m E0 (i + d))
theorem pre_at {α : Type} [Inhabited α] {l l' : List α} (h : l <+: l') {i : Nat} (hi : i < l.length) : l'[i]! = l[i]! := by
  obtain ⟨t, rfl⟩ := h
  rw [getElem!_pos (l ++ t) i (by simp; omega), getElem!_pos l i hi, List.getElem_append_left]
theorem expJ_step (m : Mz) (E : List En) (i : Nat) {j : Nat} (hj : j < (nextL m (E[i]!).2 (E[i]!).1).length) : expJ m E i (j + 1) = addE (E[i]!).1 (E[i]!).2 (expJ m E i j) (nextL m (E[i]!).2 (E[i]!).1)[j]! := by
  unfold expJ
  rw [take_snoc hj, List.foldl_append]
  rfl
theorem addE_ok {m : Mz} {E : List En} {L : List Int} {O : Nat} {k : Int} (h : SrOk m E) (hL : Opn m L O) (hk : hasI (nextL m O L) k = true) : SrOk m (addE L O E k) := by
  unfold addE
  split
  · exact h
  · rename_i hn
    refine ⟨fun e he => ?_, ?_⟩
    · rw [List.mem_append] at he
      rcases he with he | he
      · exact h.all e he
      · have : e = (L ++ [k], setN O k) := by simpa using he
        rw [this]; exact opn_snoc hL hk
    · rw [List.map_append, List.nodup_append]
      refine ⟨h.nd, by simp, fun a ha b hb hab => hn ?_⟩
      have hb : b = setN O k := by simpa using hb
      rw [List.any_eq_true]
      obtain ⟨e, he, hee⟩ := List.mem_map.1 ha
      exact ⟨e, he, by simp only [beq_iff_eq]; rw [hee, hab, hb]⟩
theorem expJ_ok {m : Mz} {E : List En} {i : Nat} (h : SrOk m E) (hi : i < E.length) : ∀ j, j ≤ (nextL m (E[i]!).2 (E[i]!).1).length → SrOk m (expJ m E i j)
  | 0, _ => by simpa [expJ] using h
  | j + 1, hj => by
    rw [expJ_step m E i (by omega)]
    refine addE_ok (expJ_ok h hi j (by omega)) ?_ ?_
    · have := h.all E[i]! (by rw [getElem!_pos E i hi]; exact List.getElem_mem hi)
      exact this
    · rw [hasI_iff, getElem!_pos (nextL m (E[i]!).2 (E[i]!).1) j (by omega)]; exact List.getElem_mem _
theorem srE_ok {m : Mz} {E0 : List En} (h : SrOk m E0) : ∀ i, SrOk m (srE m E0 i)
  | 0 => h
  | i + 1 => by
    show SrOk m (if i < (srE m E0 i).length then expE m (srE m E0 i) i else srE m E0 i)
    split
    · rename_i hi; exact expJ_ok (srE_ok h i) hi _ (Nat.le_refl _)
    · exact srE_ok h i
theorem SrOk.le {m : Mz} {E : List En} (h : SrOk m E) (hg : goodB m = true) : E.length ≤ 1024 := by
  have ok := good_ok hg
  have hl : (locksI m).length ≤ 10 := by simp only [goodB, Bool.and_eq_true, decide_eq_true_eq] at hg; exact hg.2
  have h1 : ((E.map (·.2)).map (cdO m)).length ≤ 1024 := by
    refine nodup_lt ?_ ?_
    · rw [List.Nodup, List.pairwise_map]
      refine List.Pairwise.imp_of_mem ?_ h.nd
      intro a b ha hb hab he
      obtain ⟨ea, hea, rfl⟩ := List.mem_map.1 ha
      obtain ⟨eb, heb, rfl⟩ := List.mem_map.1 hb
      exact hab (cdO_inj (opn_bits ok (h.all ea hea)) (opn_bits ok (h.all eb heb)) he)
    · intro x hx
      obtain ⟨O, _, rfl⟩ := List.mem_map.1 hx
      have h1 := cdK_lt (locksI m) (fun x => O.testBit x.toNat) (locksI m).length
      have h2 : 2 ^ (locksI m).length ≤ 2 ^ 10 := Nat.pow_le_pow_right (by omega) hl
      have h3 : cdO m O = cdK (locksI m) (fun x => O.testBit x.toNat) (locksI m).length := rfl
      omega
  simpa using h1
theorem srE_end {m : Mz} {E0 : List En} {i : Nat} (h : (srE m E0 i).length ≤ i) : ∀ d, srE m E0 (i + d) = srE m E0 i
  | 0 => rfl
  | d + 1 => by
    have ih := srE_end h d
    show (if i + d < (srE m E0 (i + d)).length then expE m (srE m E0 (i + d)) (i + d) else srE m E0 (i + d)) = _
    rw [ih, if_neg (by omega)]
theorem srF_eq {m : Mz} {E0 : List En} {i : Nat} (hi : i ≤ 1024) (h : (srE m E0 i).length ≤ i) : srF m E0 = srE m E0 i := by
  unfold srF
  rw [show 1024 = i + (1024 - i) from by omega, srE_end h]
theorem srE_preF (m : Mz) (E0 : List En) {i : Nat} (hi : i ≤ 1024) : srE m E0 i <+: srF m E0 := by
  have := srE_pre m E0 i (1024 - i)
  rwa [show i + (1024 - i) = 1024 from by omega] at this
theorem srE_next {m : Mz} {E0 : List En} {i : Nat} (hi : i < (srE m E0 i).length) : srE m E0 (i + 1) = expE m (srE m E0 i) i := by
  show (if i < (srE m E0 i).length then _ else _) = _
  rw [if_pos hi]
theorem sr_one (m : Mz) {L : List Int} {O : Nat} (h : Opn m L O) : SrOk m [((L, O) : En)] := by
  refine ⟨fun e he => ?_, by simp⟩
  have : e = ((L, O) : En) := by simpa using he
  rw [this]; exact h
theorem nextL_nodup (m : Mz) (O : Nat) (L : List Int) : (nextL m O L).Nodup := by
  unfold nextL nextK
  rw [List.Nodup, List.pairwise_map]
  exact (List.Pairwise.filter _ List.nodup_range).imp fun h he => h (by omega)
/-- The first entry of a search for which something is so. -/
def fstE (E : List En) (p : Nat → Bool) : Option (List Int) := (E.find? fun e => p e.2).map (·.1)
theorem fstE_at {E : List En} {p : Nat → Bool} {i : Nat} (hi : i < E.length) (h : ∀ j, j < i → p (E[j]!).2 = false) (h1 : p (E[i]!).2 = true) : fstE E p = some (E[i]!).1 := by
  unfold fstE
  have : E.find? (fun e => p e.2) = some E[i]! := by
    rw [List.find?_eq_some_iff_getElem]
    refine ⟨h1, i, hi, by rw [getElem!_pos E i hi], fun j hj => ?_⟩
    have := h j hj
    rw [getElem!_pos E j (by omega)] at this
    simp [this]
  rw [this]; rfl
theorem fstE_none {E : List En} {p : Nat → Bool} (h : ∀ j, j < E.length → p (E[j]!).2 = false) : fstE E p = none := by
  unfold fstE
  have : E.find? (fun e => p e.2) = none := by
    rw [List.find?_eq_none]
    intro e he
    obtain ⟨j, hj, rfl⟩ := List.mem_iff_getElem.1 he
    have := h j hj
    rw [getElem!_pos E j hj] at this
    simp [this]
  rw [this]; rfl
end Go.KD
