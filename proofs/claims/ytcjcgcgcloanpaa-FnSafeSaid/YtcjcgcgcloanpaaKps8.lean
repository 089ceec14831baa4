/- The search over openings: plain words. Can a maze still be won behind a set: plain words. Openings beside what one has with keys that stay: plain words. Functions of the laws of mazes: has, within; a maze in memory. The laws' functions on openings. The program's IsOpening at a list that an append has made. Rows of rows of numbers; the code of an opening. -/
import Derived.Test.YtcjcgcgcloanpaaKps7
import Derived.Test.YtcjcgcgcloanpaaKps2
import Derived.Test.YtcjcgcgcloanpaaKps4
import Derived.Test.YtcjcgcgcloanpaaKps3
import Derived.Test.YtcjcgcgcloanpaaKps1
import Derived.Deep.AppendLies
import Derived.Deep.DeepCutAuto
set_option linter.unusedVariables false
set_option linter.unusedSimpArgs false
namespace Go.KD
open Go.RowKit
/-- A list is an opening with a set. -/
def Opn (m : Mz) (L : List Int) (O : Nat) : Prop := opK m L L.length = some O
theorem opn_ok {m : Mz} (ok : MzOk m) {L : List Int} {O : Nat} (h : Opn m L O) : OpOk m O L := by
  have := opK_ok ok L.length O (Nat.le_refl _) h
  rwa [List.take_length] at this
theorem opn_nil (m : Mz) : Opn m [] 0 := rfl
theorem opn_of {m : Mz} {L : List Int} (h : opsB m L = true) : Opn m L (opN m L) := by
  unfold opsB at h
  rw [Option.isSome_iff_exists] at h
  obtain ⟨O, hO⟩ := h
  unfold Opn opN
  rw [hO]; rfl
theorem opn_N {m : Mz} {L : List Int} {O : Nat} (h : Opn m L O) : opN m L = O := by unfold opN; rw [h]; rfl
theorem opn_B {m : Mz} {L : List Int} {O : Nat} (h : Opn m L O) : opsB m L = true := by unfold opsB; rw [h]; rfl
theorem opK_app {m : Mz} {L : List Int} (k : Int) : ∀ i, i ≤ L.length → opK m (L ++ [k]) i = opK m L i
  | 0, _ => rfl
  | i + 1, hi => by
    have ih := opK_app (m := m) (L := L) k i (by omega)
    show (match opK m (L ++ [k]) i with | none => none | some O => if hasI (nextL m O ((L ++ [k]).take i)) (L ++ [k])[i]! then some (setN O (L ++ [k])[i]!) else none) = _
    rw [ih]
    have e1 : (L ++ [k]).take i = L.take i := by rw [List.take_append_of_le_length (by omega)]
    have e2 : (L ++ [k])[i]! = L[i]! := by rw [getElem!_pos (L ++ [k]) i (by simp; omega), getElem!_pos L i (by omega), List.getElem_append_left]
    rw [e1, e2]
    rfl
theorem opn_snoc {m : Mz} {L : List Int} {O : Nat} {k : Int} (h : Opn m L O) (hk : hasI (nextL m O L) k = true) : Opn m (L ++ [k]) (setN O k) := by
  unfold Opn at *
  rw [List.length_append, List.length_singleton, opK_step (O := O) (by rw [opK_app k _ (Nat.le_refl _)]; exact h)]
  have e1 : (L ++ [k]).take L.length = L := by simp
  have e2 : (L ++ [k])[L.length]! = k := by rw [getElem!_pos _ _ (by simp)]; simp
  rw [e1, e2, hk]; rfl
theorem opn_len {m : Mz} (ok : MzOk m) {L : List Int} {O : Nat} (h : Opn m L O) : L.length ≤ 30 := op_len ok (opn_ok ok h)
theorem opK_lock {m : Mz} {L : List Int} : ∀ i O, opK m L i = some O → ∀ j, O.testBit j = true → isLock m.doors j = true
  | 0, O, h, j, hj => by
    have : O = 0 := by simpa [opK] using h.symm
    subst this; simp at hj
  | i + 1, O, h, j, hj => by
    cases h' : opK m L i with
    | none => have := opK_none h' 1; rw [this] at h; cases h
    | some O' =>
      rw [opK_step h'] at h
      cases hh : hasI (nextL m O' (L.take i)) L[i]!
      · rw [hh] at h; cases h
      · rw [hh, if_pos rfl] at h
        cases h
        rw [hasI_iff] at hh
        obtain ⟨k, hk, hl, hc, he⟩ := in_nextK.1 hh
        rw [he, setN_bit] at hj
        rw [Bool.or_eq_true] at hj
        rcases hj with hj | hj
        · exact opK_lock i O' h' j hj
        · have : k = j := by simpa using hj
          rw [← this]; exact hl
theorem opn_lock {m : Mz} {L : List Int} {O : Nat} (h : Opn m L O) : ∀ j, O.testBit j = true → isLock m.doors j = true := opK_lock _ _ h
/-! Codes -/
def cdK (lk : List Int) (f : Int → Bool) : Nat → Nat
  | 0 => 0
  | i + 1 => if f lk[i]! then cdK lk f i ||| 2 ^ i else cdK lk f i
def cdF (m : Mz) (f : Int → Bool) : Nat := cdK (locksI m) f (locksI m).length
theorem cdK_bit (lk : List Int) (f : Int → Bool) : ∀ n i, (cdK lk f n).testBit i = (decide (i < n) && f lk[i]!)
  | 0, i => by simp [cdK]
  | n + 1, i => by
    have ih := cdK_bit lk f n i
    unfold cdK
    by_cases h : i < n
    · have h1 : n ≠ i := by omega
      split <;> simp [ih, Nat.testBit_or, Nat.testBit_two_pow, h, h1, show i < n + 1 from by omega]
    · by_cases h1 : n = i
      · subst h1
        have h2 : (cdK lk f n).testBit n = false := by rw [ih]; simp
        cases hf : f lk[n]!
        · rw [if_neg (by simp)]; simp [h2]
        · rw [if_pos rfl, Nat.testBit_or, h2, Nat.testBit_two_pow]; simp
      · split <;> simp [ih, Nat.testBit_or, Nat.testBit_two_pow, h, h1, show ¬ i < n + 1 from by omega]
theorem cdK_lt (lk : List Int) (f : Int → Bool) : ∀ n, cdK lk f n < 2 ^ n
  | 0 => by simp [cdK]
  | n + 1 => by
    have ih := cdK_lt lk f n
    have h2 : cdK lk f n < 2 ^ (n + 1) := Nat.lt_of_lt_of_le ih (Nat.pow_le_pow_right (by omega) (by omega))
    unfold cdK
    split
    · exact Nat.or_lt_two_pow h2 (Nat.pow_lt_pow_right (by omega) (by omega))
    · exact h2
theorem cdK_congr (lk : List Int) {f g : Int → Bool} : ∀ n, (∀ i, i < n → f lk[i]! = g lk[i]!) → cdK lk f n = cdK lk g n
  | 0, _ => rfl
  | n + 1, h => by
    unfold cdK
    rw [cdK_congr lk n (fun i hi => h i (by omega)), h n (by omega)]
def cdO (m : Mz) (O : Nat) : Nat := cdF m (fun x => O.testBit x.toNat)
theorem lock_mem {m : Mz} {j : Nat} : (j : Int) ∈ locksI m ↔ j < m.doors.length ∧ isLock m.doors j = true := by
  unfold locksI locksK
  simp only [List.mem_map, List.mem_filter, List.mem_range]
  constructor
  · rintro ⟨a, ⟨h1, h2⟩, h3⟩
    have : a = j := by omega
    subst this; exact ⟨h1, h2⟩
  · rintro ⟨h1, h2⟩; exact ⟨j, ⟨h1, h2⟩, rfl⟩
theorem cd_set {m : Mz} (ok : MzOk m) {L : List Int} {O : Nat} (h : OpOk m O L) : cdF m (hasI L) = cdO m O := by
  unfold cdO cdF
  refine cdK_congr _ _ fun i hi => ?_
  obtain ⟨j, hj, hjl⟩ := locks_at hi
  rw [hj, op_hasB ok h j hjl, Int.toNat_natCast]
theorem cdO_inj {m : Mz} {O O' : Nat} (h : ∀ j, O.testBit j = true → j < m.doors.length ∧ isLock m.doors j = true) (h' : ∀ j, O'.testBit j = true → j < m.doors.length ∧ isLock m.doors j = true) (he : cdO m O = cdO m O') : O = O' := by
  have key : ∀ j : Nat, (j : Int) ∈ locksI m → O.testBit j = O'.testBit j := by
    intro j hj
    obtain ⟨i, hi, he2⟩ := List.mem_iff_getElem.1 hj
    have := congrArg (fun c => Nat.testBit c i) he
    simp only [cdO, cdF, cdK_bit, hi, decide_true, Bool.true_and] at this
    rw [getElem!_pos _ i hi, he2, Int.toNat_natCast] at this
    exact this
  apply Nat.eq_of_testBit_eq
  intro j
  by_cases hj : (j : Int) ∈ locksI m
  · exact key j hj
  · have n1 : O.testBit j = false := by
      cases hb : O.testBit j
      · rfl
      · exact absurd (lock_mem.2 (h j hb)) hj
    have n2 : O'.testBit j = false := by
      cases hb : O'.testBit j
      · rfl
      · exact absurd (lock_mem.2 (h' j hb)) hj
    rw [n1, n2]
theorem opn_bits {m : Mz} (ok : MzOk m) {L : List Int} {O : Nat} (h : Opn m L O) : ∀ j, O.testBit j = true → j < m.doors.length ∧ isLock m.doors j = true := fun j hj => ⟨(opn_ok ok h).lt j hj, opn_lock h j hj⟩
theorem cd_eq {m : Mz} (ok : MzOk m) {L L' : List Int} {O O' : Nat} (h : Opn m L O) (h' : Opn m L' O') : (cdF m (hasI L) = cdF m (hasI L')) ↔ O = O' := by
  rw [cd_set ok (opn_ok ok h), cd_set ok (opn_ok ok h')]
  exact ⟨fun e => cdO_inj (opn_bits ok h) (opn_bits ok h') e, fun e => by rw [e]⟩
theorem nodup_lt {l : List Nat} {n : Nat} (hn : l.Nodup) (h : ∀ x ∈ l, x < n) : l.length ≤ n := by
  have hp : l.Perm ((List.range n).filter fun x => l.contains x) := by
    refine (List.perm_ext_iff_of_nodup hn (List.Pairwise.filter _ List.nodup_range)).2 fun x => ?_
    simp only [List.mem_filter, List.mem_range, List.contains_iff_mem]
    exact ⟨fun hx => ⟨h x hx, hx⟩, fun hx => hx.2⟩
  rw [hp.length_eq]
  exact Nat.le_trans (List.length_filter_le _ _) (by simp)
/-! The search -/
abbrev En := List Int × Nat
def addE (L : List Int) (O : Nat) (E : List En) (k : Int) : List En := if E.any (fun e => e.2 == setN O k) then E else E ++ [(L ++ [k], setN O k)]
def expJ (m : Mz) (E : List En) (i j : Nat) : List En := ((nextL m (E[i]!).2 (E[i]!).1).take j).foldl (addE (E[i]!).1 (E[i]!).2) E
def expE (m : Mz) (E : List En) (i : Nat) : List En := expJ m E i (nextL m (E[i]!).2 (E[i]!).1).length
def srE (m : Mz) (E0 : List En) : Nat → List En
  | 0 => E0
  | i + 1 => if i < (srE m E0 i).length then expE m (srE m E0 i) i else srE m E0 i
def srF (m : Mz) (E0 : List En) : List En := srE m E0 1024
structure SrOk (m : Mz) (E : List En) : Prop where
  all : ∀ e ∈ E, Opn m e.1 e.2
  nd : (E.map (·.2)).Nodup
theorem addE_pre (L : List Int) (O : Nat) (E : List En) (k : Int) : E <+: addE L O E k := by
  unfold addE; split
  · exact List.prefix_refl _
  · exact List.prefix_append _ _
theorem fold_pre (L : List Int) (O : Nat) : ∀ (l : List Int) (E : List En), E <+: l.foldl (addE L O) E
  | [], E => List.prefix_refl _
  | k :: l, E => (addE_pre L O E k).trans (fold_pre L O l _)
theorem expJ_pre (m : Mz) (E : List En) (i j : Nat) : E <+: expJ m E i j := fold_pre _ _ _ _
theorem srE_pre1 (m : Mz) (E0 : List En) (i : Nat) : srE m E0 i <+: srE m E0 (i + 1) := by
  show _ <+: (if i < (srE m E0 i).length then expE m (srE m E0 i) i else srE m E0 i)
  split
  · exact expJ_pre _ _ _ _
  · exact List.prefix_refl _
theorem srE_pre (m : Mz) (E0 : List En) (i : Nat) : ∀ d, srE m E0 i <+: srE m E0 (i + d)
  | 0 => List.prefix_refl _
  | d + 1 => (srE_pre m E0 i d).trans (srE_pre1 m E0 (i + d))
theorem pre_at {α : Type} [Inhabited α] {l l' : List α} (h : l <+: l') {i : Nat} (hi : i < l.length) : l'[i]! = l[i]! := by
  obtain ⟨t, rfl⟩ := h
  rw [getElem!_pos (l ++ t) i (by simp; omega), getElem!_pos l i hi, List.getElem_append_left]
theorem expJ_step (m : Mz) (E : List En) (i : Nat) {j : Nat} (hj : j < (nextL m (E[i]!).2 (E[i]!).1).length) : expJ m E i (j + 1) = addE (E[i]!).1 (E[i]!).2 (expJ m E i j) (nextL m (E[i]!).2 (E[i]!).1)[j]! := by
  unfold expJ
  rw [take_snoc hj, List.foldl_append]
  rfl
theorem addE_ok {m : Mz} {E : List En} {L : List Int} {O : Nat} {k : Int} (h : SrOk m E) (hL : Opn m L O) (hk : hasI (nextL m O L) k = true) : SrOk m (addE L O E k) := by
  unfold addE
  split
  · exact h
  · rename_i hn
    refine ⟨fun e he => ?_, ?_⟩
    · rw [List.mem_append] at he
      rcases he with he | he
      · exact h.all e he
      · have : e = (L ++ [k], setN O k) := by simpa using he
        rw [this]; exact opn_snoc hL hk
    · rw [List.map_append, List.nodup_append]
      refine ⟨h.nd, by simp, fun a ha b hb hab => hn ?_⟩
      have hb : b = setN O k := by simpa using hb
      rw [List.any_eq_true]
      obtain ⟨e, he, hee⟩ := List.mem_map.1 ha
      exact ⟨e, he, by simp only [beq_iff_eq]; rw [hee, hab, hb]⟩
theorem expJ_ok {m : Mz} {E : List En} {i : Nat} (h : SrOk m E) (hi : i < E.length) : ∀ j, j ≤ (nextL m (E[i]!).2 (E[i]!).1).length → SrOk m (expJ m E i j)
  | 0, _ => by simpa [expJ] using h
  | j + 1, hj => by
    rw [expJ_step m E i (by omega)]
    refine addE_ok (expJ_ok h hi j (by omega)) ?_ ?_
    · have := h.all E[i]! (by rw [getElem!_pos E i hi]; exact List.getElem_mem hi)
      exact this
    · rw [hasI_iff, getElem!_pos (nextL m (E[i]!).2 (E[i]!).1) j (by omega)]; exact List.getElem_mem _
theorem srE_ok {m : Mz} {E0 : List En} (h : SrOk m E0) : ∀ i, SrOk m (srE m E0 i)
  | 0 => h
  | i + 1 => by
    show SrOk m (if i < (srE m E0 i).length then expE m (srE m E0 i) i else srE m E0 i)
    split
    · rename_i hi; exact expJ_ok (srE_ok h i) hi _ (Nat.le_refl _)
    · exact srE_ok h i
theorem SrOk.le {m : Mz} {E : List En} (h : SrOk m E) (hg : goodB m = true) : E.length ≤ 1024 := by
  have ok := good_ok hg
  have hl : (locksI m).length ≤ 10 := by simp only [goodB, Bool.and_eq_true, decide_eq_true_eq] at hg; exact hg.2
  have h1 : ((E.map (·.2)).map (cdO m)).length ≤ 1024 := by
    refine nodup_lt ?_ ?_
    · rw [List.Nodup, List.pairwise_map]
      refine List.Pairwise.imp_of_mem ?_ h.nd
      intro a b ha hb hab he
      obtain ⟨ea, hea, rfl⟩ := List.mem_map.1 ha
      obtain ⟨eb, heb, rfl⟩ := List.mem_map.1 hb
      exact hab (cdO_inj (opn_bits ok (h.all ea hea)) (opn_bits ok (h.all eb heb)) he)
    · intro x hx
      obtain ⟨O, _, rfl⟩ := List.mem_map.1 hx
      have h1 := cdK_lt (locksI m) (fun x => O.testBit x.toNat) (locksI m).length
      have h2 : 2 ^ (locksI m).length ≤ 2 ^ 10 := Nat.pow_le_pow_right (by omega) hl
      have h3 : cdO m O = cdK (locksI m) (fun x => O.testBit x.toNat) (locksI m).length := rfl
      omega
  simpa using h1
theorem srE_end {m : Mz} {E0 : List En} {i : Nat} (h : (srE m E0 i).length ≤ i) : ∀ d, srE m E0 (i + d) = srE m E0 i
  | 0 => rfl
  | d + 1 => by
    have ih := srE_end h d
    show (if i + d < (srE m E0 (i + d)).length then expE m (srE m E0 (i + d)) (i + d) else srE m E0 (i + d)) = _
    rw [ih, if_neg (by omega)]
theorem srF_eq {m : Mz} {E0 : List En} {i : Nat} (hi : i ≤ 1024) (h : (srE m E0 i).length ≤ i) : srF m E0 = srE m E0 i := by
  unfold srF
  rw [show 1024 = i + (1024 - i) from by omega, srE_end h]
theorem srE_preF (m : Mz) (E0 : List En) {i : Nat} (hi : i ≤ 1024) : srE m E0 i <+: srF m E0 := by
  have := srE_pre m E0 i (1024 - i)
  rwa [show i + (1024 - i) = 1024 from by omega] at this
theorem srE_next {m : Mz} {E0 : List En} {i : Nat} (hi : i < (srE m E0 i).length) : srE m E0 (i + 1) = expE m (srE m E0 i) i := by
  show (if i < (srE m E0 i).length then _ else _) = _
  rw [if_pos hi]
theorem sr_one (m : Mz) {L : List Int} {O : Nat} (h : Opn m L O) : SrOk m [((L, O) : En)] := by
  refine ⟨fun e he => ?_, by simp⟩
  have : e = ((L, O) : En) := by simpa using he
  rw [this]; exact h
theorem nextL_nodup (m : Mz) (O : Nat) (L : List Int) : (nextL m O L).Nodup := by
  unfold nextL nextK
  rw [List.Nodup, List.pairwise_map]
  exact (List.Pairwise.filter _ List.nodup_range).imp fun h he => h (by omega)
/-- The first entry of a search for which something is so. -/
def fstE (E : List En) (p : Nat → Bool) : Option (List Int) := (E.find? fun e => p e.2).map (·.1)
theorem fstE_at {E : List En} {p : Nat → Bool} {i : Nat} (hi : i < E.length) (h : ∀ j, j < i → p (E[j]!).2 = false) (h1 : p (E[i]!).2 = true) : fstE E p = some (E[i]!).1 := by
  unfold fstE
  have : E.find? (fun e => p e.2) = some E[i]! := by
    rw [List.find?_eq_some_iff_getElem]
    refine ⟨h1, i, hi, by rw [getElem!_pos E i hi], fun j hj => ?_⟩
    have := h j hj
    rw [getElem!_pos E j (by omega)] at this
    simp [this]
  rw [this]; rfl
theorem fstE_none {E : List En} {p : Nat → Bool} (h : ∀ j, j < E.length → p (E[j]!).2 = false) : fstE E p = none := by
  unfold fstE
  have : E.find? (fun e => p e.2) = none := by
    rw [List.find?_eq_none]
    intro e he
    obtain ⟨j, hj, rfl⟩ := List.mem_iff_getElem.1 he
    have := h j hj
    rw [getElem!_pos E j hj] at this
    simp [this]
  rw [this]; rfl
end Go.KD

namespace Go.KD
open Go.RowKit
/-- Can it still be won behind O, with at most f further locks? -/
noncomputable def stillK (m : Mz) : Nat → Nat → Bool
  | 0, O => wonB m O
  | f + 1, O => wonB m O || (nextL m O (mem O)).any fun k => stillK m f (setN O k)
noncomputable def stillF (m : Mz) (O : Nat) : Bool := stillK m 10 O
theorem any_congr1 {α : Type} {l : List α} {f g : α → Bool} (h : ∀ x ∈ l, f x = g x) : l.any f = l.any g := by
  rw [Bool.eq_iff_iff, List.any_eq_true, List.any_eq_true]
  exact ⟨fun ⟨x, hx, he⟩ => ⟨x, hx, by rw [← h x hx]; exact he⟩, fun ⟨x, hx, he⟩ => ⟨x, hx, by rw [h x hx]; exact he⟩⟩
theorem nodup_le : ∀ {l l' : List Int}, l.Nodup → (∀ x ∈ l, x ∈ l') → l.length ≤ l'.length
  | [], l', _, _ => Nat.zero_le _
  | a :: l, l', hn, h => by
    have ha := h a (by simp)
    rw [List.nodup_cons] at hn
    have ih := nodup_le (l := l) (l' := l'.erase a) hn.2 (fun x hx => (List.mem_erase_of_ne (fun e => by rw [e] at hx; exact hn.1 hx)).2 (h x (by simp [hx])))
    rw [List.length_erase_of_mem ha] at ih
    have := List.length_pos_of_mem ha
    simp only [List.length_cons]; omega
theorem opn_lks {m : Mz} (ok : MzOk m) {L : List Int} {O : Nat} (h : Opn m L O) : L.length ≤ (locksI m).length := by
  have hop := opn_ok ok h
  refine nodup_le hop.nd fun y hy => ?_
  have hy' := (hop.mem y).1 hy
  obtain ⟨j, -, hj, rfl⟩ := (in_mem _ _).1 hy'
  exact lock_mem.2 (opn_bits ok h j hj)
theorem nextL_lks (m : Mz) (O : Nat) (L : List Int) : (nextL m O L).length ≤ (locksI m).length := by
  refine nodup_le (nextL_nodup m O L) fun y hy => ?_
  obtain ⟨k, hk, hl, -, rfl⟩ := in_nextK.1 hy
  exact lock_mem.2 ⟨hk, hl⟩
theorem opn_next {m : Mz} {L : List Int} {O : Nat} {k : Int} (h : Opn m L O) (hk : k ∈ nextL m O L) : Opn m (L ++ [k]) (setN O k) := opn_snoc h (by rw [hasI_iff]; exact hk)
theorem stillK_more {m : Mz} (ok : MzOk m) : ∀ (f : Nat) (L : List Int) (O : Nat), Opn m L O → (locksI m).length ≤ f + L.length → stillK m (f + 1) O = stillK m f O
  | 0, L, O, h, hf => by
    have hp := nextL_perm (opn_ok ok h)
    have hn : nextL m O L = [] := by
      cases hx : nextL m O L with
      | nil => rfl
      | cons k t =>
        have := opn_lks ok (opn_next h (k := k) (by rw [hx]; simp))
        simp at this; omega
    show (wonB m O || _) = wonB m O
    rw [hp, hn]; simp
  | f + 1, L, O, h, hf => by
    have hp := nextL_perm (opn_ok ok h)
    show (wonB m O || _) = (wonB m O || _)
    rw [hp]
    congr 1
    exact any_congr1 fun k hk => stillK_more ok f (L ++ [k]) (setN O k) (opn_next h hk) (by simp; omega)
theorem good_lks {m : Mz} (hg : goodB m = true) : (locksI m).length ≤ 10 := by simp only [goodB, Bool.and_eq_true, decide_eq_true_eq] at hg; exact hg.2
theorem still_eq {m : Mz} (hg : goodB m = true) {L : List Int} {O : Nat} (h : Opn m L O) : stillF m O = (wonB m O || (nextL m O L).any fun k => stillF m (setN O k)) := by
  have := stillK_more (good_ok hg) 10 L O h (by have := good_lks hg; omega)
  unfold stillF
  rw [← this]
  show (wonB m O || _) = _
  rw [nextL_perm (opn_ok (good_ok hg) h)]
theorem still_won {m : Mz} {O : Nat} (h : wonB m O = true) : stillF m O = true := by
  show (wonB m O || _) = true
  rw [h]; rfl
theorem addE_has (L : List Int) (O : Nat) (E : List En) (k : Int) : ∃ e ∈ addE L O E k, e.2 = setN O k := by
  unfold addE
  split
  · rename_i h
    obtain ⟨e, he, h⟩ := List.any_eq_true.1 h
    exact ⟨e, he, by simpa using h⟩
  · exact ⟨(L ++ [k], setN O k), by simp, rfl⟩
theorem fold_has (L : List Int) (O : Nat) {k : Int} : ∀ (l : List Int) (E : List En), k ∈ l → ∃ e ∈ l.foldl (addE L O) E, e.2 = setN O k
  | [], _, h => by simp at h
  | x :: l, E, h => by
    rw [List.mem_cons] at h
    rcases h with rfl | h
    · obtain ⟨e, he, h⟩ := addE_has L O E k
      exact ⟨e, (fold_pre L O l (addE L O E k)).subset he, h⟩
    · exact fold_has L O l (addE L O E x) h
theorem srF_closed {m : Mz} (hg : goodB m = true) {E0 : List En} (h0 : SrOk m E0) {e : En} (he : e ∈ srF m E0) {k : Int} (hk : k ∈ nextL m e.2 e.1) : ∃ e' ∈ srF m E0, e'.2 = setN e.2 k := by
  have hle : (srF m E0).length ≤ 1024 := SrOk.le (srE_ok h0 1024) hg
  have hpre : ∀ i, i ≤ 1024 → srE m E0 i <+: srF m E0 := fun i hi => srE_preF m E0 hi
  have heq : ∀ i, i ≤ 1024 → (srE m E0 i).length ≤ i → srF m E0 = srE m E0 i := fun i hi h => srF_eq hi h
  obtain ⟨F, hF⟩ : ∃ F, F = srF m E0 := ⟨_, rfl⟩
  rw [← hF] at he hle hpre heq ⊢
  clear hF
  obtain ⟨i, hi, hie⟩ := List.mem_iff_getElem.1 he
  have hi4 : i ≤ 1024 := Nat.le_trans (Nat.le_of_lt hi) hle
  have hlt : i < (srE m E0 i).length := by
    rcases Nat.lt_or_ge i (srE m E0 i).length with h | h
    · exact h
    · have := heq i hi4 h
      rw [this] at hi; omega
  have hat : (srE m E0 i)[i]! = e := by
    rw [← pre_at (hpre i hi4) hlt, getElem!_pos F i hi, hie]
  have hn := srE_next (m := m) (E0 := E0) hlt
  have h2 : ∃ e' ∈ expE m (srE m E0 i) i, e'.2 = setN e.2 k := by
    unfold expE expJ
    rw [List.take_length, hat]
    exact fold_has e.1 e.2 _ _ hk
  obtain ⟨e', he', h'⟩ := h2
  rw [← hn] at he'
  have hi5 : i + 1 ≤ 1024 := Nat.le_trans hi hle
  exact ⟨e', (hpre _ hi5).subset he', h'⟩
theorem still_reach {m : Mz} (hg : goodB m = true) {E0 : List En} (h0 : SrOk m E0) : ∀ (f : Nat) (e : En), e ∈ srF m E0 → stillK m f e.2 = true → ∃ e' ∈ srF m E0, wonB m e'.2 = true
  | 0, e, he, h => ⟨e, he, h⟩
  | f + 1, e, he, h => by
    have hO := (srE_ok h0 1024).all e he
    change (wonB m e.2 || _) = true at h
    rw [nextL_perm (opn_ok (good_ok hg) hO), Bool.or_eq_true, List.any_eq_true] at h
    rcases h with h | ⟨k, hk, h⟩
    · exact ⟨e, he, h⟩
    · obtain ⟨e', he', hee⟩ := srF_closed hg h0 he hk
      rw [← hee] at h
      exact still_reach hg h0 f e' he' h
theorem addE_from {m : Mz} (hg : goodB m = true) {Q : Prop} {L : List Int} {O : Nat} (hO : Opn m L O) (hq : stillF m O = true → Q) : ∀ (l : List Int) (E : List En), (∀ k ∈ l, k ∈ nextL m O L) → (∀ e ∈ E, stillF m e.2 = true → Q) → ∀ e ∈ l.foldl (addE L O) E, stillF m e.2 = true → Q
  | [], E, _, hE => hE
  | k :: l, E, hl, hE => by
    refine addE_from hg hO hq l (addE L O E k) (fun x hx => hl x (by simp [hx])) ?_
    unfold addE
    split
    · exact hE
    · intro e he h
      rw [List.mem_append] at he
      rcases he with he | he
      · exact hE e he h
      · have : e = (L ++ [k], setN O k) := by simpa using he
        subst this
        refine hq ?_
        rw [still_eq hg hO, Bool.or_eq_true, List.any_eq_true]
        exact .inr ⟨k, hl k (by simp), h⟩
theorem srE_from {m : Mz} (hg : goodB m = true) {E0 : List En} (h0 : SrOk m E0) {Q : Prop} (hE0 : ∀ e ∈ E0, stillF m e.2 = true → Q) : ∀ i, ∀ e ∈ srE m E0 i, stillF m e.2 = true → Q
  | 0 => hE0
  | i + 1 => by
    have ih := srE_from hg h0 hE0 i
    show ∀ e ∈ (if i < (srE m E0 i).length then expE m (srE m E0 i) i else srE m E0 i), _
    split
    · rename_i hi
      have hm : (srE m E0 i)[i]! ∈ srE m E0 i := by rw [getElem!_pos _ i hi]; exact List.getElem_mem hi
      exact addE_from hg ((srE_ok h0 i).all _ hm) (ih _ hm) _ _ (fun k hk => List.mem_of_mem_take hk) ih
    · exact ih
/-- Some set of the search wins exactly if one can still win. -/
theorem sr_still {m : Mz} (hg : goodB m = true) {L : List Int} {O : Nat} (h : Opn m L O) : (srF m [((L, O) : En)]).any (fun e => wonB m e.2) = stillF m O := by
  have h0 := sr_one m h
  rw [Bool.eq_iff_iff, List.any_eq_true]
  constructor
  · rintro ⟨e, he, hw⟩
    exact srE_from hg h0 (Q := stillF m O = true) (fun e he => by
      have he2 : e = ((L, O) : En) := by simpa using he
      rw [he2]; exact id) 1024 e he (still_won hw)
  · intro hs
    exact still_reach hg h0 10 (L, O) ((srE_preF m [((L, O) : En)] (Nat.zero_le 1024)).subset (by simp [srE])) hs
theorem sr_pack {m : Mz} (hg : goodB m = true) {L : List Int} {O : Nat} (h : Opn m L O) : ∃ E : List En, E = srF m [((L, O) : En)] ∧ SrOk m E ∧ E.length ≤ 1024 ∧ E.any (fun e => wonB m e.2) = stillF m O := by
  have h1 : SrOk m (srF m [((L, O) : En)]) := srE_ok (sr_one m h) 1024
  exact ⟨_, rfl, h1, h1.le hg, sr_still hg h⟩
/-! The map of what is known -/
def Snd (m : Mz) (f : Nat → Option Bool) : Prop := ∀ O x, f O = some x → x = stillF m O
theorem Snd.none (m : Mz) : Snd m (fun _ => none) := fun _ _ h => by cases h
theorem Snd.put {m : Mz} {f : Nat → Option Bool} (h : Snd m f) (O : Nat) : Snd m (fun j => if j = O then some (stillF m O) else f j) := by
  intro O' x hx
  dsimp only at hx
  split at hx
  · rename_i he; cases hx; rw [he]
  · exact h O' x hx
/-- Won, or still to be won behind one of the first j. -/
noncomputable def stJ (m : Mz) (O : Nat) (L : List Int) (j : Nat) : Bool := wonB m O || ((nextL m O L).take j).any fun k => stillF m (setN O k)
theorem stJ_0 (m : Mz) (O : Nat) (L : List Int) : stJ m O L 0 = wonB m O := by unfold stJ; simp
theorem stJ_next (m : Mz) (O : Nat) (L : List Int) {j : Nat} (hj : j < (nextL m O L).length) : stJ m O L (j + 1) = (stJ m O L j || stillF m (setN O (nextL m O L)[j]!)) := by
  unfold stJ; rw [take_snoc hj, List.any_append]; simp [Bool.or_assoc]
theorem stJ_all {m : Mz} (hg : goodB m = true) {L : List Int} {O : Nat} (h : Opn m L O) : stJ m O L (nextL m O L).length = stillF m O := by
  unfold stJ; rw [List.take_length, still_eq hg h]
/-- The locks that leave hope. -/
noncomputable def hopeL (m : Mz) (O : Nat) (L : List Int) : List Int := keepL (fun k => !stillF m (setN O k)) (nextL m O L)
noncomputable def pHopefulLocks (m : Mz) (L : List Int) : List Int × Bool := if askOB m L && !wonB m (opN m L) then (hopeL m (opN m L) L, true) else ([], false)
theorem pHopefulLocks_len (m : Mz) (L : List Int) : (pHopefulLocks m L).1.length ≤ 1000000 := by
  unfold pHopefulLocks
  split
  · rename_i h
    simp only [Bool.and_eq_true, askOB] at h
    have hg : goodB m = true := by simp_all
    have h1 := nextL_len m (opN m L) L
    have h2 := (good_ok hg).nd
    have h3 := keepL_le (fun k => !stillF m (setN (opN m L) k)) (nextL m (opN m L) L)
    show (keepL _ _).length ≤ _
    omega
  · simp
end Go.KD

namespace Go.KD
open Go.RowKit
theorem last_fix {m : Mz} (ok : MzOk m) {s : Nat} (hs : s < 64) : gainN m (lastN m s) = lastN m s := by
  refine Classical.byContradiction fun hn => ?_
  have hall : ∀ k, k ≤ 64 → gainN m (gK m s k) ≠ gK m s k := by
    intro k hk he
    have h1 := gK_stay he (64 - k)
    have h2 : lastN m s = gK m s k := by
      unfold lastN
      rw [show 64 = k + (64 - k) from by omega]; exact h1
    rw [h2] at hn
    exact hn he
  have hle : ∀ k, k ≤ 64 → k ≤ gK m s k := by
    intro k
    induction k with
    | zero => intro _; omega
    | succ k ih =>
      intro hk
      have h1 := ih (by omega)
      have h2 := gain_grows (hall k (by omega))
      have h3 : gK m s (k + 1) = gainN m (gK m s k) := rfl
      omega
  have h1 := hle 64 (Nat.le_refl _)
  have h2 := gK_lt ok hs 64
  omega
theorem nodes_zero {m : Mz} (ok : MzOk m) (s : Nat) : (nodesN m s).testBit 0 = true :=
  (reach_gen ok (lastN m s) (x := 0) (by have := ok.s1; omega) 4096 (Nat.le_refl _)).1
theorem nodes_closed {m : Mz} (ok : MzOk m) (s : Nat) : ClosedR m (lastN m s) (nodesN m s) :=
  (reach_gen ok (lastN m s) (x := 0) (by have := ok.s1; omega) 4096 (Nat.le_refl _)).2
theorem nodes_in {m : Mz} (ok : MzOk m) (s : Nat) : InM m (nodesN m s) := reachN_in ok _ (by have := ok.s1; omega)
theorem nodes_keys {m : Mz} (ok : MzOk m) {s : Nat} (hs : s < 64) {x c : Nat} (hx : (nodesN m s).testBit x = true) (hc : (m.keys[x]!.toNat).testBit c = true) : (lastN m s).testBit c = true := by
  rw [← last_fix ok hs]
  unfold gainN
  rw [Nat.testBit_or, Bool.or_eq_true]
  right
  show (keyN m (nodesN m s)).testBit c = true
  unfold keyN
  rw [keysL_bit, List.any_eq_true]
  have hin := nodes_in ok s x hx
  have := ok.s2
  exact ⟨(x : Int), (in_mem _ _).2 ⟨x, by omega, hx, rfl⟩, by simpa using hc⟩
theorem closed_door {m : Mz} (ok : MzOk m) {s C k : Nat} (hc : ClosedR m s C) (hk : k < m.doors.length) (hs : ∀ c, (m.doors[k]!.2.2.toNat).testBit c = true → s.testBit c = true) : C.testBit m.doors[k]!.1.toNat = C.testBit m.doors[k]!.2.1.toNat := by
  obtain ⟨a, b, z, hg⟩ : ∃ a b z, m.doors[k]! = (a, b, z) := ⟨_, _, _, rfl⟩
  have f := door_facts ok hk hg
  have hsub : subB m.doors[k]!.2.2.toNat s = true := subB_iff.2 hs
  rw [Bool.eq_iff_iff]
  constructor
  · intro h
    refine hc _ h _ ?_
    rw [stN_bit ok, opnB_iff]
    refine ⟨k, hk, ?_⟩
    unfold opnD
    rw [hsub, hg]
    simp; omega
  · intro h
    refine hc _ h _ ?_
    rw [stN_bit ok, opnB_iff]
    refine ⟨k, hk, ?_⟩
    unfold opnD
    rw [hsub, hg]
    simp; omega
theorem cnt_last {m : Mz} (ok : MzOk m) {N c : Nat} (hN : SubN N (nodesN m 0)) (h : 0 < cntK m N c) : (lastN m 0).testBit c = true := by
  unfold cntK at h
  rw [List.countP_pos_iff] at h
  obtain ⟨x, hx, hc⟩ := h
  obtain ⟨i, -, hi, rfl⟩ := (in_mem _ _).1 hx
  exact nodes_keys ok (by omega) (hN i hi) (by simpa using hc)
theorem near_sub {m : Mz} (ok : MzOk m) {O : Nat} (h : ∀ j, O.testBit j = true → j < m.doors.length → ∀ c, (m.doors[j]!.2.2.toNat).testBit c = true → (lastN m 0).testBit c = true) : SubN (nearN m O) (nodesN m 0) := by
  refine nearK_sub (nodes_zero ok 0) (fun k hk ho => closed_door ok (nodes_closed ok 0) hk fun c hc => ?_) _
  unfold openK at ho
  rw [Bool.or_eq_true] at ho
  rcases ho with ho | ho
  · have : m.doors[k]!.2.2 = 0 := by simpa using ho
    rw [this] at hc; simp at hc
  · exact h k ho hk c hc
theorem opened_last {m : Mz} (ok : MzOk m) {L : List Int} : ∀ i O, i ≤ L.length → opK m L i = some O → ∀ j, O.testBit j = true → j < m.doors.length → ∀ c, (m.doors[j]!.2.2.toNat).testBit c = true → (lastN m 0).testBit c = true
  | 0, O, _, h => by
    intro j hj
    have : O = 0 := by simpa [opK] using h.symm
    rw [this] at hj; simp at hj
  | i + 1, O, hi, h => by
    intro j hj hjl c hc
    unfold opK at h
    split at h
    · cases h
    · rename_i O' h'
      have ih := opened_last ok i O' (by omega) h'
      split at h
      · rename_i hh
        simp only [Option.some.injEq] at h
        rw [hasI_iff] at hh
        obtain ⟨k, hk, hl, hcan, he⟩ := in_nextK.1 hh
        rw [← h, he, setN_bit, Bool.or_eq_true] at hj
        rcases hj with hj | hj
        · exact ih j hj hjl c hc
        · have hkj : k = j := by simpa using hj
          subst hkj
          unfold canK at hcan
          simp only [Bool.and_eq_true, List.all_eq_true, List.mem_range] at hcan
          obtain ⟨a, b, z, hg⟩ : ∃ a b z, m.doors[k]! = (a, b, z) := ⟨_, _, _, rfl⟩
          have f := door_facts ok hk hg
          have hc6 : c < 6 := by
            rw [hg] at hc
            exact bit_lt (n := 6) (x := z.toNat) (by omega) hc
          have h3 := hcan.2 c hc6
          rw [hc] at h3
          have h4 : 1 ≤ leftC m (nearN m O') (L.take i) c := by simpa using h3
          unfold leftC at h4
          exact cnt_last ok (near_sub ok ih) (by omega)
      · cases h
theorem near_nodes {m : Mz} (ok : MzOk m) {L : List Int} {O : Nat} (h : Opn m L O) : SubN (nearN m O) (nodesN m 0) := near_sub ok (opened_last ok _ _ (Nat.le_refl _) h)
theorem left_last {m : Mz} (ok : MzOk m) {L : List Int} {O c : Nat} (h : Opn m L O) (hl : 0 < leftC m (nearN m O) L c) : (lastN m 0).testBit c = true := by
  unfold leftC at hl
  exact cnt_last ok (near_nodes ok h) (by omega)
/-- What a law asks of two lists. -/
def withinB (a b : List Int) : Bool := a.all fun x => hasI b x
theorem within_of {a b : List Int} (h : ∀ x ∈ a, x ∈ b) : withinB a b = true := by
  unfold withinB
  rw [List.all_eq_true]
  exact fun x hx => hasI_iff.2 (h x hx)
theorem mem_sub {a b : Nat} (h : SubN a b) : ∀ x ∈ mem a, x ∈ mem b := by
  intro x hx
  obtain ⟨i, h1, h2, rfl⟩ := (in_mem _ _).1 hx
  exact (in_mem _ _).2 ⟨i, h1, h i h2, rfl⟩
theorem won_has {m : Mz} (ok : MzOk m) (O : Nat) : hasI (mem (nearN m O)) (m.size - 1) = wonB m O := by
  have h1 := ok.s1
  have h2 := ok.s2
  have h3 := ok.nk
  rw [Bool.eq_iff_iff, hasI_iff, in_mem]
  unfold wonB
  constructor
  · rintro ⟨i, -, hi, he⟩
    rw [show m.keys.length - 1 = i from by omega]; exact hi
  · intro h
    exact ⟨_, by omega, h, by omega⟩
theorem opn_locks {m : Mz} (ok : MzOk m) {L : List Int} {O : Nat} (h : Opn m L O) : ∀ x ∈ L, x ∈ locksI m := by
  intro x hx
  obtain ⟨j, -, hj, rfl⟩ := (in_mem _ _).1 (((opn_ok ok h).mem x).1 hx)
  exact lock_mem.2 (opn_bits ok h j hj)
theorem next_locks {m : Mz} (O : Nat) (L : List Int) : ∀ x ∈ nextL m O L, x ∈ locksI m := by
  intro x hx
  obtain ⟨k, hk, hl, -, rfl⟩ := in_nextK.1 hx
  exact lock_mem.2 ⟨hk, hl⟩
theorem hope_next {m : Mz} (O : Nat) (L : List Int) : ∀ x ∈ hopeL m O L, x ∈ nextL m O L := by
  intro x hx
  unfold hopeL keepL at hx
  exact (List.mem_filter.1 hx).1
theorem ops_more {m : Mz} {L : List Int} {O : Nat} (h : Opn m L O) (k : Int) : opsB m (L ++ [k]) = hasI (nextL m O L) k := by
  unfold opsB
  have h1 : opK m (L ++ [k]) L.length = some O := by rw [opK_app k _ (Nat.le_refl _)]; exact h
  rw [List.length_append, List.length_singleton, opK_step h1]
  have e1 : (L ++ [k]).take L.length = L := by simp
  have e2 : (L ++ [k])[L.length]! = k := by simp
  rw [e1, e2]
  cases hasI (nextL m O L) k <;> rfl
theorem needs_cnt (ds : List D3) (c : Nat) (hc : c < 6) : ∀ k, (needsK ds k)[c]! = (((List.range k).filter fun j => (ds[j]!.2.2.toNat).testBit c).length : Int)
  | 0 => by
    have h : c = 0 ∨ c = 1 ∨ c = 2 ∨ c = 3 ∨ c = 4 ∨ c = 5 := by omega
    rcases h with rfl | rfl | rfl | rfl | rfl | rfl <;> rfl
  | k + 1 => by
    have ih := needs_cnt ds c hc k
    have e : ((List.filter (fun j => (ds[j]!.2.2.toNat).testBit c) [k]).length : Int) = bitI ds[k]!.2.2.toNat c := by
      rw [List.filter_cons, List.filter_nil]
      unfold bitI
      cases (ds[k]!.2.2.toNat).testBit c <;> rfl
    show (doorAdd (needsK ds k) ds[k]!.2.2.toNat)[c]! = _
    unfold doorAdd
    rw [addF_at _ _ _ _ hc, ih, List.range_succ, List.filter_append, List.length_append, Int.natCast_add, e]
    simp
theorem spent_needs {m : Mz} (ok : MzOk m) {L : List Int} {O c : Nat} (h : Opn m L O) (hc : c < 6) : (cntD m L c : Int) ≤ (needsK m.doors m.doors.length)[c]! := by
  rw [needs_cnt _ _ hc]
  unfold cntD
  have hop := opn_ok ok h
  rw [List.countP_eq_length_filter]
  have h1 : (L.filter fun k => (m.doors[k.toNat]!.2.2.toNat).testBit c).length ≤ (((List.range m.doors.length).filter fun j => (m.doors[j]!.2.2.toNat).testBit c).map fun (j : Nat) => (j : Int)).length := by
    refine nodup_le (hop.nd.filter _) fun x hx => ?_
    obtain ⟨h1, h2⟩ := List.mem_filter.1 hx
    obtain ⟨j, -, hj, rfl⟩ := (in_mem _ _).1 ((hop.mem x).1 h1)
    refine List.mem_map.2 ⟨j, List.mem_filter.2 ⟨List.mem_range.2 (hop.lt j hj), by simpa using h2⟩, rfl⟩
  rw [List.length_map] at h1
  omega
end Go.KD

namespace Go.KD
open Go.RowKit
theorem belowM (w : World) (o : Obj) : Below w.heap.size w (w.alloc o) := (Below.refl _ _).alloc (Nat.le_refl _) o
/-- A maze that lies in block b. -/
structure MS (W : World) (b : Nat) (v1 v2 : Value) (m : Mz) : Prop where
  c0 : W.cell? ⟨b, 0, none⟩ = some (.int .i64 m.size)
  c1 : W.cell? ⟨b, 1, none⟩ = some v1
  c2 : W.cell? ⟨b, 2, none⟩ = some v2
  at' : MzAt W (.agg #[.int .i64 m.size, v1, v2]) m
  lt : b < W.heap.size
theorem MS.later {W W' : World} {b : Nat} {v1 v2 : Value} {m : Mz} (h : MS W b v1 v2 m) (hb : Below W.heap.size W W') : MS W' b v1 v2 m :=
  ⟨(hb.cell (p := ⟨b, 0, none⟩) h.lt).trans h.c0, (hb.cell (p := ⟨b, 1, none⟩) h.lt).trans h.c1, (hb.cell (p := ⟨b, 2, none⟩) h.lt).trans h.c2, h.at'.later hb, Nat.lt_of_lt_of_le h.lt hb.size⟩
theorem MS.new {W : World} {v1 v2 : Value} {m : Mz} (T : TypeId) (h : MzAt W (.agg #[.int .i64 m.size, v1, v2]) m) : MS (W.alloc (.cells #[.int .i64 m.size, v1, v2] T)) W.heap.size v1 v2 m :=
  ⟨by simp [go_sem], by simp [go_sem], by simp [go_sem], h.later (belowM _ _), by simp⟩
theorem withinB_at {a b : List Int} {k : Nat} (hk : k < a.length) (h : withinB a b = true) : hasI b a[k]! = true := by
  unfold withinB at h
  rw [List.all_eq_true] at h
  exact h _ (by rw [getElem!_pos a k hk]; exact List.getElem_mem hk)
theorem withinB_no {a b : List Int} {k : Nat} (hk : k < a.length) (h : hasI b a[k]! = false) : withinB a b = false := by
  cases hw : withinB a b
  · rfl
  · rw [withinB_at hk hw] at h; cases h
theorem withinB_yes {a b : List Int} (h : ∀ k, k < a.length → hasI b a[k]! = true) : withinB a b = true := by
  refine within_of fun x hx => ?_
  obtain ⟨k, hk, rfl⟩ := List.mem_iff_getElem.1 hx
  have := h k hk
  rw [getElem!_pos a k hk, hasI_iff] at this
  exact this
end Go.KD
namespace Go.Proofs.Ytcjcgcgcloanpaa
open Go.RowKit Go.KD
attribute [local go_sem] later_cell later_frozen
set_option maxHeartbeats 1000000 in
theorem vHas_c (a : Option Addr) (cap : Nat) (l : List Int) (x : Int) (w : World) (hA : IC w a l) (hl : l.length ≤ 1048576) : Calls Try.prog 28 #[.slice a l.length cap, .int .i64 x] w fun e w' => e = .returned (.bool (hasI l x)) ∧ Below w.heap.size w w' := by
  go_enter Try.func28, Try.ntmps28
  go_wp2
  go_loopw [5] (fun i wr => ∃ k : Nat, k ≤ l.length ∧ i = .int .i64 k ∧ Below w.heap.size w wr ∧ Hid (∀ j, j < k → l[j]! ≠ x)) (fun i _ => l.length - (intOf i).toNat)
  case atStart => exact ⟨0, Nat.zero_le _, rfl, Below.refl _ _, fun j hj => absurd hj (Nat.not_lt_zero j)⟩
  case round =>
    obtain ⟨k, hk, rfl, hb, HN⟩ := hrel
    by_cases hlt : k < l.length
    · obtain ⟨b, off, y, rfl, HX, hbs, c0⟩ := (hA.later hb).at k hlt
      have hsz := hb.size
      go_wp2
      · go_ret
        exact ⟨ret_bool (by symm; exact hasI_at hlt (by rw [HX.out]; simp_all)), hb⟩
      · go_roundw
        case rel => exact ⟨k+1, by omega, by go_num, hb, fun j hj => by
          rcases Nat.lt_or_ge j k with h | h
          · exact HN.out j h
          · obtain rfl : j = k := by omega
            rw [HX.out]; simp_all⟩
        case measure => simp [intOf]; omega
    · obtain rfl : k = l.length := by omega
      go_wp2
      go_ret
      exact ⟨ret_bool (by symm; exact hasI_none HN.out), hb⟩
theorem vIntsSame_c (a a' : Option Addr) (cap cap' : Nat) (l : List Int) (w : World) (hA : IC w a l) (hA' : IC w a' l) (hl : l.length ≤ 1048576) : Calls Try.prog 25 #[.slice a l.length cap, .slice a' l.length cap'] w fun e w' =>
   e = .returned (.bool true) ∧ Below w.heap.size w w' :=
  (vInts_c a a' cap cap' l l w hA hA' hl hl).mono fun e w' h => ⟨by rw [h.1]; simp, h.2⟩
theorem rIntsSame_c (a a' : Option Addr) (cap cap' : Nat) (l : List Int) (w : World) (hA : IC w a l) (hA' : IC w a' l) (hl : l.length ≤ 1048576) : Calls Try.prog 49 #[.slice a l.length cap, .slice a' l.length cap'] w fun e w' =>
   e = .returned (.bool true) ∧ Below w.heap.size w w' :=
  (rInts_c a a' cap cap' l l w hA hA' hl hl).mono fun e w' h => ⟨by rw [h.1]; simp, h.2⟩
set_option maxHeartbeats 1000000 in
theorem vWithin_c (a b : Option Addr) (cap cap' : Nat) (l m : List Int) (w : World) (hA : IC w a l) (hB : IC w b m) (hl : l.length ≤ 1048576) (hm : m.length ≤ 1048576) : Calls Try.prog 27 #[.slice a l.length cap, .slice b m.length cap'] w fun e w' => e = .returned (.bool (withinB l m)) ∧ Below w.heap.size w w' := by
  have HA := Lib.hid hA
  have HBM := Lib.hid hB
  clear hA hB
  go_enter Try.func27, Try.ntmps27
  go_wp2
  go_loopw [5] (fun i wr => ∃ k : Nat, k ≤ l.length ∧ i = .int .i64 k ∧ Hid (Below w.heap.size w wr) ∧ Hid (∀ j, j < k → hasI m l[j]! = true)) (fun i _ => l.length - (intOf i).toNat)
  case atStart => exact ⟨0, Nat.zero_le _, rfl, Below.refl _ _, fun j hj => absurd hj (Nat.not_lt_zero j)⟩
  case round =>
    obtain ⟨wo, rfl⟩ : ∃ wo : World, wo = wr := ⟨_, rfl⟩
    obtain ⟨k, hk, rfl, HBo, HN⟩ := hrel
    by_cases hlt : k < l.length
    · obtain ⟨b1, off, y, rfl, HX, hbs, c0⟩ := (HA.out.later HBo.out).at k hlt
      have hkI : (k : Int) < (l.length : Int) := by omega
      have hk0 : (0 : Int) ≤ (k : Int) := by omega
      go_wp2_with fail
      refine (vHas_c b cap' m y _ (HBM.out.later HBo.out) hm).mono ?_
      rintro e w2 ⟨rfl, hb2⟩
      have HB2 := Lib.hid (below_then HBo.out hb2)
      clear hb2 c0 hbs
      obtain ⟨hb, hhb⟩ : ∃ hb, hb = hasI m y := ⟨_, rfl⟩
      rw [← hhb]
      have HH := Lib.hid hhb
      clear hhb
      cases hb
      · go_wp2_with fail
        go_ret
        exact ⟨ret_bool (by symm; exact withinB_no hlt (by rw [HX.out]; exact HH.out.symm)), HB2.out⟩
      · go_wp2_with fail
        go_roundw
        case rel => exact ⟨k+1, by omega, by go_num, HB2, fun j hj => by
          rcases Nat.lt_or_ge j k with h | h
          · exact HN.out j h
          · obtain rfl : j = k := by omega
            rw [HX.out]; exact HH.out.symm⟩
        case measure => simp [intOf]; omega
    · obtain rfl : k = l.length := by omega
      go_wp2_with fail
      go_ret
      exact ⟨ret_bool (by symm; exact withinB_yes HN.out), HBo.out⟩
set_option maxRecDepth 100000 in
set_option maxHeartbeats 2000000 in
theorem implGainAtLast0_c (v : Value) (m : Mz) (w : World) (hm : MzAt w v m) (ok : MzOk m) : Calls Try.prog 26 #[v, .int .i64 0] w fun e w' => ∃ u, e = .returned (.tuple #[.int .i64 (lastN m 0), u, .bool true]) ∧ w'.ownsRow w.heap.size 3 1 u (mem (nodesN m 0)).length (ints (mem (nodesN m 0))) ∧ Below w.heap.size w w' := by
  have hM := hm
  obtain ⟨⟨ad, cd, ak, ck, rfl, hd, hk'⟩, nd, nk⟩ := hM
  have HM := Lib.hid hm
  have OK := Lib.hid ok
  have hX64 : nodesN m 0 < 1073741824 := by have := (nodes_in ok 0).lt ok; omega
  clear hm ok hd hk'
  go_enter Try.func26, Try.ntmps26
  go_wp2_with fail
  refine (asked_c _ m 0 _ (HM.out.later (belowM _ _))).mono ?_
  rintro e w1 ⟨rfl, hb1⟩
  have hq : askB m 0 = true := by unfold askB; rw [mazeB_true.2 OK.out]; rfl
  rw [hq]
  clear hq
  have hb1' : Below (w.heap.size + 1) (w.alloc (.cells #[.int .i64 m.size, .slice ad m.doors.length cd, .slice ak m.keys.length ck] 27)) w1 := hb1.mono (by simp)
  obtain ⟨q0, q1, q2, z1⟩ := box3 hb1' (by omega)
  have HB1 : Hid (Below w.heap.size w w1) := below_box hb1' (by omega)
  clear hb1 hb1'
  go_wp2_with fail
  clear q0 q1 q2
  refine (atLast_c _ m 0 _ (HM.out.later HB1.out) OK.out (by omega)).mono ?_
  obtain ⟨X, hX⟩ : ∃ X, X = nodesN m 0 := ⟨_, rfl⟩
  obtain ⟨A, hA⟩ : ∃ A, A = lastN m 0 := ⟨_, rfl⟩
  rw [← hX] at hX64 ⊢
  rw [← hA]
  have HXE := Lib.hid hX
  have HAE := Lib.hid hA
  clear hX hA
  rintro e w2 ⟨rfl, hb2⟩
  have HB2 := Lib.hid (below_then HB1.out hb2)
  clear hb2
  go_upto_region 4 with fail
  obtain ⟨wo, hWo⟩ : ∃ wo, wo = w2.alloc (.cells #[.int .i64 (A : Int), .int .i64 (X : Int)] 68) := ⟨_, rfl⟩
  have q0 : wo.cell? ⟨w2.heap.size, 0, none⟩ = some (.int .i64 (A : Int)) := by rw [hWo]; simp [go_sem]
  have q1 : wo.cell? ⟨w2.heap.size, 1, none⟩ = some (.int .i64 (X : Int)) := by rw [hWo]; simp [go_sem]
  have qz : w2.heap.size < wo.heap.size := by rw [hWo]; simp
  have HBo : Hid (Below w.heap.size w wo) := by show Below _ _ _; rw [hWo]; exact below_then HB2.out (belowM _ _)
  rw [← hWo]
  clear hWo
  go_region_with (go_at_call 77; (with_reducible refine (members_c X hX64 _).mono ?_); rintro e w3 ⟨u, rfl, ho, hb3⟩; have r0 : w3.cell? ⟨w2.heap.size, 0, none⟩ = some (.int .i64 (A : Int)) := (hb3.cell (p := ⟨w2.heap.size, 0, none⟩) (show w2.heap.size < wo.heap.size by assumption)).trans q0; have HO := Lib.hid ho; have HB3 := Lib.hid hb3; clear ho hb3)
  all_goals
    simp only [List.getElem_toArray, List.getElem_cons_succ, List.getElem_cons_zero, List.size_toArray, List.length_cons, List.length_nil, Act.put, Act.eval, List.setIfInBounds_toArray, List.set_cons_succ, List.set_cons_zero]
    go_wp2_with fail
    go_ret3
    exact ⟨u, by rw [← HAE.out]; rfl, by rw [← HXE.out]; exact (Own.mono (Own.of HO.out) HBo.out.size (Nat.le_refl _)).row, below_then HBo.out.drew HB3.out⟩
theorem implCanWin0_c (v : Value) (m : Mz) (w : World) (hm : MzAt w v m) (ok : MzOk m) : Calls Try.prog 40 #[v, .int .i64 0] w fun e w' => e = .returned (.tuple #[.bool (winB m 0), .bool true]) ∧ Below w.heap.size w w' := by
  have hM := hm
  obtain ⟨⟨ad, cd, ak, ck, rfl, hd, hk'⟩, nd, nk⟩ := hM
  have HM := Lib.hid hm
  have OK := Lib.hid ok
  clear hm ok hd hk'
  go_enter Try.func40, Try.ntmps40
  go_wp2_with fail
  refine (asked_c _ m 0 _ (HM.out.later (belowM _ _))).mono ?_
  rintro e w1 ⟨rfl, hb1⟩
  have hq : askB m 0 = true := by unfold askB; rw [mazeB_true.2 OK.out]; rfl
  rw [hq]
  clear hq
  have hb1' : Below (w.heap.size + 1) (w.alloc (.cells #[.int .i64 m.size, .slice ad m.doors.length cd, .slice ak m.keys.length ck] 27)) w1 := hb1.mono (by simp)
  obtain ⟨q0, q1, q2, z1⟩ := box3 hb1' (by omega)
  have HB1 : Hid (Below w.heap.size w w1) := below_box hb1' (by omega)
  clear hb1 hb1'
  go_wp2_with fail
  clear q0 q1 q2
  refine (canWin_c _ m 0 _ (HM.out.later HB1.out) OK.out (by omega)).mono ?_
  obtain ⟨wb, hwb⟩ : ∃ wb, wb = winB m 0 := ⟨_, rfl⟩
  rw [← hwb]
  have HWE := Lib.hid hwb
  clear hwb
  rintro e w2 ⟨rfl, hb2⟩
  have HB2 := Lib.hid (below_then HB1.out hb2)
  clear hb2
  go_wp2_with fail
  go_ret2
  exact ⟨by rw [← HWE.out]; rfl, HB2.out⟩
end Go.Proofs.Ytcjcgcgcloanpaa

namespace Go.Proofs.Ytcjcgcgcloanpaa
open Go.RowKit Go.KD
attribute [local go_sem] later_cell later_frozen
theorem specIsOpening_c (v : Value) (m : Mz) (aL : Option Addr) (cL : Nat) (L : List Int) (w : World) (hm : MzAt w v m) (hL : IC w aL L) (hLl : L.length ≤ 1048576) (wl : ∀ y ∈ L, wfI y) (hcap : 0 < L.length → L.length ≤ cL ∧ cL ≤ maxLen) : Calls Try.prog 10 #[v, .slice aL L.length cL] w fun e w' =>
    e = .returned (.tuple #[.bool (pIsOpening m L).1, .bool (pIsOpening m L).2]) ∧ Below w.heap.size w w' := by
  have hM := hm
  obtain ⟨⟨ad, cd, ak, ck, rfl, hd, hk'⟩, nd, nk⟩ := hM
  have HCAP := Lib.hid hcap; clear hcap wl
  cases b1 : goodB m
  · have H : Hid (pIsOpening m L = (false, false)) := by show _ = _; simp [pIsOpening, b1]
    go_enter Try.func10, Try.ntmps10
    go_wp2_with (go_at_call 74; refine (l7Good_c _ m _ (hm.later (by (repeat (first | exact Below.refl _ _ | apply Below.drew | apply below_drewN | (refine Below.setCell ?_ (by first | omega | (simp; done) | (simp; omega) | (dsimp only; omega)) _) | (refine Below.alloc ?_ (by first | omega | (simp; done) | (simp; omega) | (dsimp only; omega)) _)))))).mono ?_; rintro e w1 ⟨rfl, hb1⟩; simp only [b1])
    go_ret2
    exact ⟨by rw [H.out]; rfl, below_then (by (repeat (first | exact Below.refl _ _ | apply Below.drew | apply below_drewN | (refine Below.setCell ?_ (by first | omega | (simp; done) | (simp; omega) | (dsimp only; omega)) _) | (refine Below.alloc ?_ (by first | omega | (simp; done) | (simp; omega) | (dsimp only; omega)) _)))) hb1⟩
  · have H : Hid (pIsOpening m L = (opsB m L, true)) := by show _ = _; simp [pIsOpening, b1]
    have OK := Lib.hid (good_ok b1)
    go_enter Try.func10, Try.ntmps10
    go_wp2_with (first
      | (go_at_call 74; refine (l7Good_c _ m _ (hm.later (by (repeat (first | exact Below.refl _ _ | apply Below.drew | apply below_drewN | (refine Below.setCell ?_ (by first | omega | (simp; done) | (simp; omega) | (dsimp only; omega)) _) | (refine Below.alloc ?_ (by first | omega | (simp; done) | (simp; omega) | (dsimp only; omega)) _)))))).mono ?_; rintro e w1 ⟨rfl, hb1⟩; obtain ⟨hc1, hf1, hz1⟩ := bcell3 hb1; have HB1 : Hid (Below w.heap.size w w1) := below_then (by (repeat (first | exact Below.refl _ _ | apply Below.drew | apply below_drewN | (refine Below.setCell ?_ (by first | omega | (simp; done) | (simp; omega) | (dsimp only; omega)) _) | (refine Below.alloc ?_ (by first | omega | (simp; done) | (simp; omega) | (dsimp only; omega)) _)))) hb1; simp only [b1])
      | (go_at_call 75; refine (l7Opening_c _ m _ _ L _ (hm.later HB1.out) OK.out (hL.later HB1.out) hLl HCAP.out).mono ?_; rintro e w2 ⟨rfl, hb2⟩))
    go_ret2
    exact ⟨by rw [H.out]; rfl, below_then HB1.out hb2⟩
theorem implIsOpening_c (v : Value) (m : Mz) (aL : Option Addr) (cL : Nat) (L : List Int) (w : World) (hm : MzAt w v m) (hL : IC w aL L) (hLl : L.length ≤ 1048576) (wl : ∀ y ∈ L, wfI y) : Calls Try.prog 9 #[v, .slice aL L.length cL] w fun e w' =>
    e = .returned (.tuple #[.bool (pIsOpening m L).1, .bool (pIsOpening m L).2]) ∧ Below w.heap.size w w' := by
  have hM := hm
  obtain ⟨⟨ad, cd, ak, ck, rfl, hd, hk'⟩, nd, nk⟩ := hM
  clear wl
  cases b1 : goodB m
  · have H : Hid (pIsOpening m L = (false, false)) := by show _ = _; simp [pIsOpening, b1]
    go_enter Try.func9, Try.ntmps9
    go_wp2_with (go_at_call 72; refine (isSpent_c _ m _ (hm.later (by (repeat (first | exact Below.refl _ _ | apply Below.drew | apply below_drewN | (refine Below.setCell ?_ (by first | omega | (simp; done) | (simp; omega) | (dsimp only; omega)) _) | (refine Below.alloc ?_ (by first | omega | (simp; done) | (simp; omega) | (dsimp only; omega)) _)))))).mono ?_; rintro e w1 ⟨rfl, hb1⟩; simp only [b1])
    go_ret2
    exact ⟨by rw [H.out]; rfl, below_then (by (repeat (first | exact Below.refl _ _ | apply Below.drew | apply below_drewN | (refine Below.setCell ?_ (by first | omega | (simp; done) | (simp; omega) | (dsimp only; omega)) _) | (refine Below.alloc ?_ (by first | omega | (simp; done) | (simp; omega) | (dsimp only; omega)) _)))) hb1⟩
  · have H : Hid (pIsOpening m L = (opsB m L, true)) := by show _ = _; simp [pIsOpening, b1]
    have OK := Lib.hid (good_ok b1)
    go_enter Try.func9, Try.ntmps9
    go_wp2_with (first
      | (go_at_call 72; refine (isSpent_c _ m _ (hm.later (by (repeat (first | exact Below.refl _ _ | apply Below.drew | apply below_drewN | (refine Below.setCell ?_ (by first | omega | (simp; done) | (simp; omega) | (dsimp only; omega)) _) | (refine Below.alloc ?_ (by first | omega | (simp; done) | (simp; omega) | (dsimp only; omega)) _)))))).mono ?_; rintro e w1 ⟨rfl, hb1⟩; obtain ⟨hc1, hf1, hz1⟩ := bcell3 hb1; have HB1 : Hid (Below w.heap.size w w1) := below_then (by (repeat (first | exact Below.refl _ _ | apply Below.drew | apply below_drewN | (refine Below.setCell ?_ (by first | omega | (simp; done) | (simp; omega) | (dsimp only; omega)) _) | (refine Below.alloc ?_ (by first | omega | (simp; done) | (simp; omega) | (dsimp only; omega)) _)))) hb1; simp only [b1])
      | (go_at_call 73; refine (opening_c _ m _ _ L _ (hm.later HB1.out) OK.out (hL.later HB1.out) hLl).mono ?_; rintro e w2 ⟨rfl, hb2⟩))
    go_ret2
    exact ⟨by rw [H.out]; rfl, below_then HB1.out hb2⟩
theorem specWinsBy_c (v : Value) (m : Mz) (aL : Option Addr) (cL : Nat) (L : List Int) (w : World) (hm : MzAt w v m) (hL : IC w aL L) (hLl : L.length ≤ 1048576) (wl : ∀ y ∈ L, wfI y) (hcap : 0 < L.length → L.length ≤ cL ∧ cL ≤ maxLen) : Calls Try.prog 18 #[v, .slice aL L.length cL] w fun e w' =>
    e = .returned (.tuple #[.bool (pWinsBy m L).1, .bool (pWinsBy m L).2]) ∧ Below w.heap.size w w' := by
  have hM := hm
  obtain ⟨⟨ad, cd, ak, ck, rfl, hd, hk'⟩, nd, nk⟩ := hM
  have HCAP := Lib.hid hcap; clear hcap wl
  cases b1 : askOB m L
  · have H : Hid (pWinsBy m L = (false, false)) := by show _ = _; simp [pWinsBy, b1]
    go_enter Try.func18, Try.ntmps18
    go_wp2_with (go_at_call 79; refine (l7Ask_c _ m _ _ L _ (hm.later (by (repeat (first | exact Below.refl _ _ | apply Below.drew | apply below_drewN | (refine Below.setCell ?_ (by first | omega | (simp; done) | (simp; omega) | (dsimp only; omega)) _) | (refine Below.alloc ?_ (by first | omega | (simp; done) | (simp; omega) | (dsimp only; omega)) _))))) (hL.later (by (repeat (first | exact Below.refl _ _ | apply Below.drew | apply below_drewN | (refine Below.setCell ?_ (by first | omega | (simp; done) | (simp; omega) | (dsimp only; omega)) _) | (refine Below.alloc ?_ (by first | omega | (simp; done) | (simp; omega) | (dsimp only; omega)) _))))) hLl HCAP.out).mono ?_; rintro e w1 ⟨rfl, hb1⟩; simp only [b1])
    go_ret2
    exact ⟨by rw [H.out]; rfl, below_then (by (repeat (first | exact Below.refl _ _ | apply Below.drew | apply below_drewN | (refine Below.setCell ?_ (by first | omega | (simp; done) | (simp; omega) | (dsimp only; omega)) _) | (refine Below.alloc ?_ (by first | omega | (simp; done) | (simp; omega) | (dsimp only; omega)) _)))) hb1⟩
  · have H : Hid (pWinsBy m L = (wonB m (opN m L), true)) := by show _ = _; simp [pWinsBy, b1]
    have b2 : goodB m = true ∧ opsB m L = true := by simpa [askOB] using b1
    have OK := Lib.hid (good_ok b2.1)
    have HOP := Lib.hid (ops_ok OK.out b2.2)
    clear b2
    go_enter Try.func18, Try.ntmps18
    go_wp2_with (first
      | (go_at_call 79; refine (l7Ask_c _ m _ _ L _ (hm.later (by (repeat (first | exact Below.refl _ _ | apply Below.drew | apply below_drewN | (refine Below.setCell ?_ (by first | omega | (simp; done) | (simp; omega) | (dsimp only; omega)) _) | (refine Below.alloc ?_ (by first | omega | (simp; done) | (simp; omega) | (dsimp only; omega)) _))))) (hL.later (by (repeat (first | exact Below.refl _ _ | apply Below.drew | apply below_drewN | (refine Below.setCell ?_ (by first | omega | (simp; done) | (simp; omega) | (dsimp only; omega)) _) | (refine Below.alloc ?_ (by first | omega | (simp; done) | (simp; omega) | (dsimp only; omega)) _))))) hLl HCAP.out).mono ?_; rintro e w1 ⟨rfl, hb1⟩; obtain ⟨hc1, hf1, hz1⟩ := bcell3 hb1; have HB1 : Hid (Below w.heap.size w w1) := below_then (by (repeat (first | exact Below.refl _ _ | apply Below.drew | apply below_drewN | (refine Below.setCell ?_ (by first | omega | (simp; done) | (simp; omega) | (dsimp only; omega)) _) | (refine Below.alloc ?_ (by first | omega | (simp; done) | (simp; omega) | (dsimp only; omega)) _)))) hb1; simp only [b1])
      | (go_at_call 86; refine (l7Wins_c _ m (opN m L) _ _ _ L _ rfl (hm.later HB1.out) OK.out (hL.later HB1.out) hLl HOP.out).mono ?_; rintro e w2 ⟨rfl, hb2⟩))
    go_ret2
    exact ⟨by rw [H.out]; rfl, below_then HB1.out hb2⟩
theorem implWinsBy_c (v : Value) (m : Mz) (aL : Option Addr) (cL : Nat) (L : List Int) (w : World) (hm : MzAt w v m) (hL : IC w aL L) (hLl : L.length ≤ 1048576) (wl : ∀ y ∈ L, wfI y) : Calls Try.prog 17 #[v, .slice aL L.length cL] w fun e w' =>
    e = .returned (.tuple #[.bool (pWinsBy m L).1, .bool (pWinsBy m L).2]) ∧ Below w.heap.size w w' := by
  have hM := hm
  obtain ⟨⟨ad, cd, ak, ck, rfl, hd, hk'⟩, nd, nk⟩ := hM
  clear wl
  cases b1 : askOB m L
  · have H : Hid (pWinsBy m L = (false, false)) := by show _ = _; simp [pWinsBy, b1]
    go_enter Try.func17, Try.ntmps17
    go_wp2_with (go_at_call 76; refine (openingOf_c _ m _ _ L _ (hm.later (by (repeat (first | exact Below.refl _ _ | apply Below.drew | apply below_drewN | (refine Below.setCell ?_ (by first | omega | (simp; done) | (simp; omega) | (dsimp only; omega)) _) | (refine Below.alloc ?_ (by first | omega | (simp; done) | (simp; omega) | (dsimp only; omega)) _))))) (hL.later (by (repeat (first | exact Below.refl _ _ | apply Below.drew | apply below_drewN | (refine Below.setCell ?_ (by first | omega | (simp; done) | (simp; omega) | (dsimp only; omega)) _) | (refine Below.alloc ?_ (by first | omega | (simp; done) | (simp; omega) | (dsimp only; omega)) _))))) hLl).mono ?_; rintro e w1 ⟨⟨O, rfl, HO⟩, hb1⟩; simp only [b1])
    go_ret2
    exact ⟨by rw [H.out]; rfl, below_then (by (repeat (first | exact Below.refl _ _ | apply Below.drew | apply below_drewN | (refine Below.setCell ?_ (by first | omega | (simp; done) | (simp; omega) | (dsimp only; omega)) _) | (refine Below.alloc ?_ (by first | omega | (simp; done) | (simp; omega) | (dsimp only; omega)) _)))) hb1⟩
  · have H : Hid (pWinsBy m L = (wonB m (opN m L), true)) := by show _ = _; simp [pWinsBy, b1]
    have b2 : goodB m = true ∧ opsB m L = true := by simpa [askOB] using b1
    have OK := Lib.hid (good_ok b2.1)
    have HOP := Lib.hid (ops_ok OK.out b2.2)
    have HB1' := Lib.hid b1
    clear b2
    go_enter Try.func17, Try.ntmps17
    go_wp2_with (first
      | (go_at_call 76; refine (openingOf_c _ m _ _ L _ (hm.later (by (repeat (first | exact Below.refl _ _ | apply Below.drew | apply below_drewN | (refine Below.setCell ?_ (by first | omega | (simp; done) | (simp; omega) | (dsimp only; omega)) _) | (refine Below.alloc ?_ (by first | omega | (simp; done) | (simp; omega) | (dsimp only; omega)) _))))) (hL.later (by (repeat (first | exact Below.refl _ _ | apply Below.drew | apply below_drewN | (refine Below.setCell ?_ (by first | omega | (simp; done) | (simp; omega) | (dsimp only; omega)) _) | (refine Below.alloc ?_ (by first | omega | (simp; done) | (simp; omega) | (dsimp only; omega)) _))))) hLl).mono ?_; rintro e w1 ⟨⟨O, rfl, HO⟩, hb1⟩; obtain ⟨hc1, hf1, hz1⟩ := bcell3 hb1; have HB1 : Hid (Below w.heap.size w w1) := below_then (by (repeat (first | exact Below.refl _ _ | apply Below.drew | apply below_drewN | (refine Below.setCell ?_ (by first | omega | (simp; done) | (simp; omega) | (dsimp only; omega)) _) | (refine Below.alloc ?_ (by first | omega | (simp; done) | (simp; omega) | (dsimp only; omega)) _)))) hb1; simp only [b1]; have hOe := HO.out HB1'.out; subst hOe; clear HO)
      | (go_at_call 85; refine (isWon_c _ m (opN m L) _ (hm.later HB1.out) OK.out (op_lt30 OK.out HOP.out)).mono ?_; rintro e w2 ⟨rfl, hb2⟩))
    go_ret2
    exact ⟨by rw [H.out]; rfl, below_then HB1.out hb2⟩
theorem specNearNodes_c (v : Value) (m : Mz) (aL : Option Addr) (cL : Nat) (L : List Int) (w : World) (R : List Int) (b : Bool) (hp : pNearNodes m L = (R, b)) (hm : MzAt w v m) (hL : IC w aL L) (hLl : L.length ≤ 1048576) (wl : ∀ y ∈ L, wfI y) (hcap : 0 < L.length → L.length ≤ cL ∧ cL ≤ maxLen) : Calls Try.prog 12 #[v, .slice aL L.length cL] w fun e w' =>
    ∃ aw cw, e = .returned (.tuple #[.slice aw R.length cw, .bool b]) ∧ IC w' aw R ∧ Below w.heap.size w w' := by
  have hM := hm
  obtain ⟨⟨ad, cd, ak, ck, rfl, hd, hk'⟩, nd, nk⟩ := hM
  have HCAP := Lib.hid hcap; clear hcap wl
  cases b1 : askOB m L
  · simp only [pNearNodes, b1] at hp
    cases hp
    go_enter Try.func12, Try.ntmps12
    go_wp2_with (go_at_call 79; refine (l7Ask_c _ m _ _ L _ (hm.later (by (repeat (first | exact Below.refl _ _ | apply Below.drew | apply below_drewN | (refine Below.setCell ?_ (by first | omega | (simp; done) | (simp; omega) | (dsimp only; omega)) _) | (refine Below.alloc ?_ (by first | omega | (simp; done) | (simp; omega) | (dsimp only; omega)) _))))) (hL.later (by (repeat (first | exact Below.refl _ _ | apply Below.drew | apply below_drewN | (refine Below.setCell ?_ (by first | omega | (simp; done) | (simp; omega) | (dsimp only; omega)) _) | (refine Below.alloc ?_ (by first | omega | (simp; done) | (simp; omega) | (dsimp only; omega)) _))))) hLl HCAP.out).mono ?_; rintro e w1 ⟨rfl, hb1⟩; have HB1 : Hid (Below w.heap.size w w1) := below_then (by (repeat (first | exact Below.refl _ _ | apply Below.drew | apply below_drewN | (refine Below.setCell ?_ (by first | omega | (simp; done) | (simp; omega) | (dsimp only; omega)) _) | (refine Below.alloc ?_ (by first | omega | (simp; done) | (simp; omega) | (dsimp only; omega)) _)))) hb1; simp only [b1])
    have HBF := Lib.hid (HB1.out.alloc HB1.out.size (.cells #[] 3))
    go_ret2
    exact ⟨_, _, rfl, fun k hk => by simp at hk, HBF.out⟩
  · simp only [pNearNodes, b1, if_true] at hp
    cases hp
    have b2 : goodB m = true ∧ opsB m L = true := by simpa [askOB] using b1
    have OK := Lib.hid (good_ok b2.1)
    have HOP := Lib.hid (ops_ok OK.out b2.2)
    clear b2
    go_enter Try.func12, Try.ntmps12
    go_wp2_with (first
      | (go_at_call 79; refine (l7Ask_c _ m _ _ L _ (hm.later (by (repeat (first | exact Below.refl _ _ | apply Below.drew | apply below_drewN | (refine Below.setCell ?_ (by first | omega | (simp; done) | (simp; omega) | (dsimp only; omega)) _) | (refine Below.alloc ?_ (by first | omega | (simp; done) | (simp; omega) | (dsimp only; omega)) _))))) (hL.later (by (repeat (first | exact Below.refl _ _ | apply Below.drew | apply below_drewN | (refine Below.setCell ?_ (by first | omega | (simp; done) | (simp; omega) | (dsimp only; omega)) _) | (refine Below.alloc ?_ (by first | omega | (simp; done) | (simp; omega) | (dsimp only; omega)) _))))) hLl HCAP.out).mono ?_; rintro e w1 ⟨rfl, hb1⟩; obtain ⟨hc1, hf1, hz1⟩ := bcell3 hb1; have HB1 : Hid (Below w.heap.size w w1) := below_then (by (repeat (first | exact Below.refl _ _ | apply Below.drew | apply below_drewN | (refine Below.setCell ?_ (by first | omega | (simp; done) | (simp; omega) | (dsimp only; omega)) _) | (refine Below.alloc ?_ (by first | omega | (simp; done) | (simp; omega) | (dsimp only; omega)) _)))) hb1; simp only [b1])
      | (go_at_call 80; refine (l7Near_c _ m (opN m L) _ _ L _ (hm.later HB1.out) OK.out (hL.later HB1.out) hLl (op_hasB OK.out HOP.out)).mono ?_; rintro e w2 ⟨u2, rfl, hlm, hb2⟩; obtain ⟨gr, orr, cr, rfl, hni, -, -, -, -⟩ := hlm; have HI2 := Lib.hid hni; clear hni))
    go_ret2
    exact ⟨_, _, rfl, HI2.out, below_then HB1.out hb2⟩
theorem implNearNodes_c (v : Value) (m : Mz) (aL : Option Addr) (cL : Nat) (L : List Int) (w : World) (R : List Int) (b : Bool) (hp : pNearNodes m L = (R, b)) (hm : MzAt w v m) (hL : IC w aL L) (hLl : L.length ≤ 1048576) (wl : ∀ y ∈ L, wfI y) : Calls Try.prog 11 #[v, .slice aL L.length cL] w fun e w' =>
    ∃ u, e = .returned (.tuple #[u, .bool b]) ∧ w'.ownsRow w.heap.size 3 1 u R.length (ints R) ∧ Below w.heap.size w w' := by
  have hM := hm
  obtain ⟨⟨ad, cd, ak, ck, rfl, hd, hk'⟩, nd, nk⟩ := hM
  clear wl
  cases b1 : askOB m L
  · simp only [pNearNodes, b1] at hp
    cases hp
    go_enter Try.func11, Try.ntmps11
    go_wp2_with (go_at_call 76; refine (openingOf_c _ m _ _ L _ (hm.later (by (repeat (first | exact Below.refl _ _ | apply Below.drew | apply below_drewN | (refine Below.setCell ?_ (by first | omega | (simp; done) | (simp; omega) | (dsimp only; omega)) _) | (refine Below.alloc ?_ (by first | omega | (simp; done) | (simp; omega) | (dsimp only; omega)) _))))) (hL.later (by (repeat (first | exact Below.refl _ _ | apply Below.drew | apply below_drewN | (refine Below.setCell ?_ (by first | omega | (simp; done) | (simp; omega) | (dsimp only; omega)) _) | (refine Below.alloc ?_ (by first | omega | (simp; done) | (simp; omega) | (dsimp only; omega)) _))))) hLl).mono ?_; rintro e w1 ⟨⟨O, rfl, HO⟩, hb1⟩; have HB1 : Hid (Below w.heap.size w w1) := below_then (by (repeat (first | exact Below.refl _ _ | apply Below.drew | apply below_drewN | (refine Below.setCell ?_ (by first | omega | (simp; done) | (simp; omega) | (dsimp only; omega)) _) | (refine Below.alloc ?_ (by first | omega | (simp; done) | (simp; omega) | (dsimp only; omega)) _)))) hb1; simp only [b1])
    go_ret2
    exact ⟨_, rfl, ⟨rfl, .inl ⟨rfl, rfl⟩⟩, HB1.out⟩
  · simp only [pNearNodes, b1, if_true] at hp
    cases hp
    have b2 : goodB m = true ∧ opsB m L = true := by simpa [askOB] using b1
    have OK := Lib.hid (good_ok b2.1)
    have HOP := Lib.hid (ops_ok OK.out b2.2)
    have HB1' := Lib.hid b1
    have hN := (nearN_in OK.out (opN m L)).lt OK.out
    clear b2
    go_enter Try.func11, Try.ntmps11
    go_wp2_with (first
      | (go_at_call 76; refine (openingOf_c _ m _ _ L _ (hm.later (by (repeat (first | exact Below.refl _ _ | apply Below.drew | apply below_drewN | (refine Below.setCell ?_ (by first | omega | (simp; done) | (simp; omega) | (dsimp only; omega)) _) | (refine Below.alloc ?_ (by first | omega | (simp; done) | (simp; omega) | (dsimp only; omega)) _))))) (hL.later (by (repeat (first | exact Below.refl _ _ | apply Below.drew | apply below_drewN | (refine Below.setCell ?_ (by first | omega | (simp; done) | (simp; omega) | (dsimp only; omega)) _) | (refine Below.alloc ?_ (by first | omega | (simp; done) | (simp; omega) | (dsimp only; omega)) _))))) hLl).mono ?_; rintro e w1 ⟨⟨O, rfl, HO⟩, hb1⟩; obtain ⟨hc1, hf1, hz1⟩ := bcell3 hb1; have HB1 : Hid (Below w.heap.size w w1) := below_then (by (repeat (first | exact Below.refl _ _ | apply Below.drew | apply below_drewN | (refine Below.setCell ?_ (by first | omega | (simp; done) | (simp; omega) | (dsimp only; omega)) _) | (refine Below.alloc ?_ (by first | omega | (simp; done) | (simp; omega) | (dsimp only; omega)) _)))) hb1; simp only [b1]; have hOe := HO.out HB1'.out; subst hOe; clear HO)
      | (go_at_call 78; refine (near_c _ m (opN m L) _ (hm.later HB1.out) OK.out (op_lt30 OK.out HOP.out)).mono ?_; rintro e w2 ⟨rfl, hb2⟩; have HB2 : Hid (Below w.heap.size w w2) := below_then HB1.out hb2)
      | (go_at_call 77; refine (members_c _ (by omega) _).mono ?_; rintro e w3 ⟨v3, rfl, ho3, hb3⟩; have HO3 := Lib.hid ho3; clear ho3))
    go_ret2
    exact ⟨_, rfl, (Own.mono (Own.of HO3.out) HB2.out.size (Nat.le_refl _)).row, below_then HB2.out hb3⟩
theorem specKeysLeft_c (v : Value) (m : Mz) (aL : Option Addr) (cL : Nat) (L : List Int) (w : World) (R : List Int) (b : Bool) (hp : pKeysLeft m L = (R, b)) (hm : MzAt w v m) (hL : IC w aL L) (hLl : L.length ≤ 1048576) (wl : ∀ y ∈ L, wfI y) (hcap : 0 < L.length → L.length ≤ cL ∧ cL ≤ maxLen) : Calls Try.prog 14 #[v, .slice aL L.length cL] w fun e w' =>
    ∃ aw cw, e = .returned (.tuple #[.slice aw R.length cw, .bool b]) ∧ IC w' aw R ∧ Below w.heap.size w w' := by
  have hM := hm
  obtain ⟨⟨ad, cd, ak, ck, rfl, hd, hk'⟩, nd, nk⟩ := hM
  have HCAP := Lib.hid hcap; clear hcap wl
  cases b1 : askOB m L
  · simp only [pKeysLeft, b1] at hp
    cases hp
    go_enter Try.func14, Try.ntmps14
    go_wp2_with (go_at_call 79; refine (l7Ask_c _ m _ _ L _ (hm.later (by (repeat (first | exact Below.refl _ _ | apply Below.drew | apply below_drewN | (refine Below.setCell ?_ (by first | omega | (simp; done) | (simp; omega) | (dsimp only; omega)) _) | (refine Below.alloc ?_ (by first | omega | (simp; done) | (simp; omega) | (dsimp only; omega)) _))))) (hL.later (by (repeat (first | exact Below.refl _ _ | apply Below.drew | apply below_drewN | (refine Below.setCell ?_ (by first | omega | (simp; done) | (simp; omega) | (dsimp only; omega)) _) | (refine Below.alloc ?_ (by first | omega | (simp; done) | (simp; omega) | (dsimp only; omega)) _))))) hLl HCAP.out).mono ?_; rintro e w1 ⟨rfl, hb1⟩; have HB1 : Hid (Below w.heap.size w w1) := below_then (by (repeat (first | exact Below.refl _ _ | apply Below.drew | apply below_drewN | (refine Below.setCell ?_ (by first | omega | (simp; done) | (simp; omega) | (dsimp only; omega)) _) | (refine Below.alloc ?_ (by first | omega | (simp; done) | (simp; omega) | (dsimp only; omega)) _)))) hb1; simp only [b1])
    have HBF := Lib.hid (HB1.out.alloc HB1.out.size (.cells #[] 3))
    go_ret2
    exact ⟨_, _, rfl, fun k hk => by simp at hk, HBF.out⟩
  · simp only [pKeysLeft, b1, if_true] at hp
    cases hp
    have b2 : goodB m = true ∧ opsB m L = true := by simpa [askOB] using b1
    have OK := Lib.hid (good_ok b2.1)
    have HOP := Lib.hid (ops_ok OK.out b2.2)
    have HL30 := Lib.hid (op_len OK.out HOP.out)
    clear b2
    go_enter Try.func14, Try.ntmps14
    go_wp2_with (first
      | (go_at_call 79; refine (l7Ask_c _ m _ _ L _ (hm.later (by (repeat (first | exact Below.refl _ _ | apply Below.drew | apply below_drewN | (refine Below.setCell ?_ (by first | omega | (simp; done) | (simp; omega) | (dsimp only; omega)) _) | (refine Below.alloc ?_ (by first | omega | (simp; done) | (simp; omega) | (dsimp only; omega)) _))))) (hL.later (by (repeat (first | exact Below.refl _ _ | apply Below.drew | apply below_drewN | (refine Below.setCell ?_ (by first | omega | (simp; done) | (simp; omega) | (dsimp only; omega)) _) | (refine Below.alloc ?_ (by first | omega | (simp; done) | (simp; omega) | (dsimp only; omega)) _))))) hLl HCAP.out).mono ?_; rintro e w1 ⟨rfl, hb1⟩; obtain ⟨hc1, hf1, hz1⟩ := bcell3 hb1; have HB1 : Hid (Below w.heap.size w w1) := below_then (by (repeat (first | exact Below.refl _ _ | apply Below.drew | apply below_drewN | (refine Below.setCell ?_ (by first | omega | (simp; done) | (simp; omega) | (dsimp only; omega)) _) | (refine Below.alloc ?_ (by first | omega | (simp; done) | (simp; omega) | (dsimp only; omega)) _)))) hb1; simp only [b1])
      | (go_at_call 82; refine (l7Left_c _ m (opN m L) _ _ L _ (hm.later HB1.out) OK.out (hL.later HB1.out) (by have := HL30.out; omega) (op_hasB OK.out HOP.out) (op_at HOP.out)).mono ?_; rintro e w2 ⟨g2, rfl, ho2, hb2⟩; have HI2 := Lib.hid (ic_of' (Own.of ho2) (by simp)); clear ho2))
    go_ret2
    exact ⟨_, _, by rw [leftL_len]; rfl, HI2.out, below_then HB1.out hb2⟩
theorem implKeysLeft_c (v : Value) (m : Mz) (aL : Option Addr) (cL : Nat) (L : List Int) (w : World) (R : List Int) (b : Bool) (hp : pKeysLeft m L = (R, b)) (hm : MzAt w v m) (hL : IC w aL L) (hLl : L.length ≤ 1048576) (wl : ∀ y ∈ L, wfI y) : Calls Try.prog 13 #[v, .slice aL L.length cL] w fun e w' =>
    ∃ u, e = .returned (.tuple #[u, .bool b]) ∧ w'.ownsRow w.heap.size 3 1 u R.length (ints R) ∧ Below w.heap.size w w' := by
  have hM := hm
  obtain ⟨⟨ad, cd, ak, ck, rfl, hd, hk'⟩, nd, nk⟩ := hM
  clear wl
  cases b1 : askOB m L
  · simp only [pKeysLeft, b1] at hp
    cases hp
    go_enter Try.func13, Try.ntmps13
    go_wp2_with (go_at_call 76; refine (openingOf_c _ m _ _ L _ (hm.later (by (repeat (first | exact Below.refl _ _ | apply Below.drew | apply below_drewN | (refine Below.setCell ?_ (by first | omega | (simp; done) | (simp; omega) | (dsimp only; omega)) _) | (refine Below.alloc ?_ (by first | omega | (simp; done) | (simp; omega) | (dsimp only; omega)) _))))) (hL.later (by (repeat (first | exact Below.refl _ _ | apply Below.drew | apply below_drewN | (refine Below.setCell ?_ (by first | omega | (simp; done) | (simp; omega) | (dsimp only; omega)) _) | (refine Below.alloc ?_ (by first | omega | (simp; done) | (simp; omega) | (dsimp only; omega)) _))))) hLl).mono ?_; rintro e w1 ⟨⟨O, rfl, HO⟩, hb1⟩; have HB1 : Hid (Below w.heap.size w w1) := below_then (by (repeat (first | exact Below.refl _ _ | apply Below.drew | apply below_drewN | (refine Below.setCell ?_ (by first | omega | (simp; done) | (simp; omega) | (dsimp only; omega)) _) | (refine Below.alloc ?_ (by first | omega | (simp; done) | (simp; omega) | (dsimp only; omega)) _)))) hb1; simp only [b1])
    go_ret2
    exact ⟨_, rfl, ⟨rfl, .inl ⟨rfl, rfl⟩⟩, HB1.out⟩
  · simp only [pKeysLeft, b1, if_true] at hp
    cases hp
    have b2 : goodB m = true ∧ opsB m L = true := by simpa [askOB] using b1
    have OK := Lib.hid (good_ok b2.1)
    have HOP := Lib.hid (ops_ok OK.out b2.2)
    have HB1' := Lib.hid b1
    have HLP := Lib.hid (leftL_perm HOP.out (nearN m (opN m L)))
    clear b2
    go_enter Try.func13, Try.ntmps13
    go_wp2_with (first
      | (go_at_call 76; refine (openingOf_c _ m _ _ L _ (hm.later (by (repeat (first | exact Below.refl _ _ | apply Below.drew | apply below_drewN | (refine Below.setCell ?_ (by first | omega | (simp; done) | (simp; omega) | (dsimp only; omega)) _) | (refine Below.alloc ?_ (by first | omega | (simp; done) | (simp; omega) | (dsimp only; omega)) _))))) (hL.later (by (repeat (first | exact Below.refl _ _ | apply Below.drew | apply below_drewN | (refine Below.setCell ?_ (by first | omega | (simp; done) | (simp; omega) | (dsimp only; omega)) _) | (refine Below.alloc ?_ (by first | omega | (simp; done) | (simp; omega) | (dsimp only; omega)) _))))) hLl).mono ?_; rintro e w1 ⟨⟨O, rfl, HO⟩, hb1⟩; obtain ⟨hc1, hf1, hz1⟩ := bcell3 hb1; have HB1 : Hid (Below w.heap.size w w1) := below_then (by (repeat (first | exact Below.refl _ _ | apply Below.drew | apply below_drewN | (refine Below.setCell ?_ (by first | omega | (simp; done) | (simp; omega) | (dsimp only; omega)) _) | (refine Below.alloc ?_ (by first | omega | (simp; done) | (simp; omega) | (dsimp only; omega)) _)))) hb1; simp only [b1]; have hOe := HO.out HB1'.out; subst hOe; clear HO)
      | (go_at_call 81; refine (keysLeft_c _ m (opN m L) _ (hm.later HB1.out) OK.out (op_lt30 OK.out HOP.out) HOP.out.lt).mono ?_; rintro e w3 ⟨v3, rfl, ho3, hb3⟩; rw [HLP.out] at ho3; have HO3 := Lib.hid ho3; clear ho3))
    go_ret2
    exact ⟨_, rfl, by rw [leftL_len]; exact (Own.mono (Own.of HO3.out) HB1.out.size (Nat.le_refl _)).row, below_then HB1.out hb3⟩
theorem specNextLocks_c (v : Value) (m : Mz) (aL : Option Addr) (cL : Nat) (L : List Int) (w : World) (R : List Int) (b : Bool) (hp : pNextLocks m L = (R, b)) (hm : MzAt w v m) (hL : IC w aL L) (hLl : L.length ≤ 1048576) (wl : ∀ y ∈ L, wfI y) (hcap : 0 < L.length → L.length ≤ cL ∧ cL ≤ maxLen) : Calls Try.prog 16 #[v, .slice aL L.length cL] w fun e w' =>
    ∃ aw cw, e = .returned (.tuple #[.slice aw R.length cw, .bool b]) ∧ IC w' aw R ∧ Below w.heap.size w w' := by
  have hM := hm
  obtain ⟨⟨ad, cd, ak, ck, rfl, hd, hk'⟩, nd, nk⟩ := hM
  have HCAP := Lib.hid hcap; clear hcap wl
  cases b1 : askOB m L
  · simp only [pNextLocks, b1] at hp
    cases hp
    go_enter Try.func16, Try.ntmps16
    go_wp2_with (go_at_call 79; refine (l7Ask_c _ m _ _ L _ (hm.later (by (repeat (first | exact Below.refl _ _ | apply Below.drew | apply below_drewN | (refine Below.setCell ?_ (by first | omega | (simp; done) | (simp; omega) | (dsimp only; omega)) _) | (refine Below.alloc ?_ (by first | omega | (simp; done) | (simp; omega) | (dsimp only; omega)) _))))) (hL.later (by (repeat (first | exact Below.refl _ _ | apply Below.drew | apply below_drewN | (refine Below.setCell ?_ (by first | omega | (simp; done) | (simp; omega) | (dsimp only; omega)) _) | (refine Below.alloc ?_ (by first | omega | (simp; done) | (simp; omega) | (dsimp only; omega)) _))))) hLl HCAP.out).mono ?_; rintro e w1 ⟨rfl, hb1⟩; have HB1 : Hid (Below w.heap.size w w1) := below_then (by (repeat (first | exact Below.refl _ _ | apply Below.drew | apply below_drewN | (refine Below.setCell ?_ (by first | omega | (simp; done) | (simp; omega) | (dsimp only; omega)) _) | (refine Below.alloc ?_ (by first | omega | (simp; done) | (simp; omega) | (dsimp only; omega)) _)))) hb1; simp only [b1])
    have HBF := Lib.hid (HB1.out.alloc HB1.out.size (.cells #[] 3))
    go_ret2
    exact ⟨_, _, rfl, fun k hk => by simp at hk, HBF.out⟩
  · simp only [pNextLocks, b1, if_true] at hp
    cases hp
    have b2 : goodB m = true ∧ opsB m L = true := by simpa [askOB] using b1
    have OK := Lib.hid (good_ok b2.1)
    have HOP := Lib.hid (ops_ok OK.out b2.2)
    have HL30 := Lib.hid (op_len OK.out HOP.out)
    clear b2
    go_enter Try.func16, Try.ntmps16
    go_wp2_with (first
      | (go_at_call 79; refine (l7Ask_c _ m _ _ L _ (hm.later (by (repeat (first | exact Below.refl _ _ | apply Below.drew | apply below_drewN | (refine Below.setCell ?_ (by first | omega | (simp; done) | (simp; omega) | (dsimp only; omega)) _) | (refine Below.alloc ?_ (by first | omega | (simp; done) | (simp; omega) | (dsimp only; omega)) _))))) (hL.later (by (repeat (first | exact Below.refl _ _ | apply Below.drew | apply below_drewN | (refine Below.setCell ?_ (by first | omega | (simp; done) | (simp; omega) | (dsimp only; omega)) _) | (refine Below.alloc ?_ (by first | omega | (simp; done) | (simp; omega) | (dsimp only; omega)) _))))) hLl HCAP.out).mono ?_; rintro e w1 ⟨rfl, hb1⟩; obtain ⟨hc1, hf1, hz1⟩ := bcell3 hb1; have HB1 : Hid (Below w.heap.size w w1) := below_then (by (repeat (first | exact Below.refl _ _ | apply Below.drew | apply below_drewN | (refine Below.setCell ?_ (by first | omega | (simp; done) | (simp; omega) | (dsimp only; omega)) _) | (refine Below.alloc ?_ (by first | omega | (simp; done) | (simp; omega) | (dsimp only; omega)) _)))) hb1; simp only [b1])
      | (go_at_call 84; refine (l7Next_c _ m (opN m L) _ _ L _ (hm.later HB1.out) OK.out (hL.later HB1.out) (by have := HL30.out; omega) HOP.out).mono ?_; rintro e w2 ⟨u2, rfl, ho2, hb2⟩; obtain ⟨a2, c2, rfl⟩ := own_slice ho2; have HO2 := Lib.hid ho2; clear ho2))
    go_ret2
    exact ⟨_, _, rfl, ic_of (Own.of HO2.out), below_then HB1.out hb2⟩
theorem implNextLocks_c (v : Value) (m : Mz) (aL : Option Addr) (cL : Nat) (L : List Int) (w : World) (R : List Int) (b : Bool) (hp : pNextLocks m L = (R, b)) (hm : MzAt w v m) (hL : IC w aL L) (hLl : L.length ≤ 1048576) (wl : ∀ y ∈ L, wfI y) : Calls Try.prog 15 #[v, .slice aL L.length cL] w fun e w' =>
    ∃ u, e = .returned (.tuple #[u, .bool b]) ∧ w'.ownsRow w.heap.size 3 1 u R.length (ints R) ∧ Below w.heap.size w w' := by
  have hM := hm
  obtain ⟨⟨ad, cd, ak, ck, rfl, hd, hk'⟩, nd, nk⟩ := hM
  clear wl
  cases b1 : askOB m L
  · simp only [pNextLocks, b1] at hp
    cases hp
    go_enter Try.func15, Try.ntmps15
    go_wp2_with (go_at_call 76; refine (openingOf_c _ m _ _ L _ (hm.later (by (repeat (first | exact Below.refl _ _ | apply Below.drew | apply below_drewN | (refine Below.setCell ?_ (by first | omega | (simp; done) | (simp; omega) | (dsimp only; omega)) _) | (refine Below.alloc ?_ (by first | omega | (simp; done) | (simp; omega) | (dsimp only; omega)) _))))) (hL.later (by (repeat (first | exact Below.refl _ _ | apply Below.drew | apply below_drewN | (refine Below.setCell ?_ (by first | omega | (simp; done) | (simp; omega) | (dsimp only; omega)) _) | (refine Below.alloc ?_ (by first | omega | (simp; done) | (simp; omega) | (dsimp only; omega)) _))))) hLl).mono ?_; rintro e w1 ⟨⟨O, rfl, HO⟩, hb1⟩; have HB1 : Hid (Below w.heap.size w w1) := below_then (by (repeat (first | exact Below.refl _ _ | apply Below.drew | apply below_drewN | (refine Below.setCell ?_ (by first | omega | (simp; done) | (simp; omega) | (dsimp only; omega)) _) | (refine Below.alloc ?_ (by first | omega | (simp; done) | (simp; omega) | (dsimp only; omega)) _)))) hb1; simp only [b1])
    go_ret2
    exact ⟨_, rfl, ⟨rfl, .inl ⟨rfl, rfl⟩⟩, HB1.out⟩
  · simp only [pNextLocks, b1, if_true] at hp
    cases hp
    have b2 : goodB m = true ∧ opsB m L = true := by simpa [askOB] using b1
    have OK := Lib.hid (good_ok b2.1)
    have HOP := Lib.hid (ops_ok OK.out b2.2)
    have HB1' := Lib.hid b1
    clear b2
    go_enter Try.func15, Try.ntmps15
    go_wp2_with (first
      | (go_at_call 76; refine (openingOf_c _ m _ _ L _ (hm.later (by (repeat (first | exact Below.refl _ _ | apply Below.drew | apply below_drewN | (refine Below.setCell ?_ (by first | omega | (simp; done) | (simp; omega) | (dsimp only; omega)) _) | (refine Below.alloc ?_ (by first | omega | (simp; done) | (simp; omega) | (dsimp only; omega)) _))))) (hL.later (by (repeat (first | exact Below.refl _ _ | apply Below.drew | apply below_drewN | (refine Below.setCell ?_ (by first | omega | (simp; done) | (simp; omega) | (dsimp only; omega)) _) | (refine Below.alloc ?_ (by first | omega | (simp; done) | (simp; omega) | (dsimp only; omega)) _))))) hLl).mono ?_; rintro e w1 ⟨⟨O, rfl, HO⟩, hb1⟩; obtain ⟨hc1, hf1, hz1⟩ := bcell3 hb1; have HB1 : Hid (Below w.heap.size w w1) := below_then (by (repeat (first | exact Below.refl _ _ | apply Below.drew | apply below_drewN | (refine Below.setCell ?_ (by first | omega | (simp; done) | (simp; omega) | (dsimp only; omega)) _) | (refine Below.alloc ?_ (by first | omega | (simp; done) | (simp; omega) | (dsimp only; omega)) _)))) hb1; simp only [b1]; have hOe := HO.out HB1'.out; subst hOe; clear HO)
      | (go_at_call 83; refine (nextLocks_c _ m (opN m L) L _ (hm.later HB1.out) OK.out HOP.out).mono ?_; rintro e w3 ⟨v3, rfl, ho3, hb3⟩; have HO3 := Lib.hid ho3; clear ho3))
    go_ret2
    exact ⟨_, rfl, (HO3.out.mono HB1.out.size (Nat.le_refl _)).row, below_then HB1.out hb3⟩
end Go.Proofs.Ytcjcgcgcloanpaa

namespace Go.KD
open Go.RowKit
theorem app_len (l : List Int) (x : Int) : 0 + l.length + 1 = (l ++ [x]).length := by simp
theorem app_end {w3 : World} {base : Nat} {e : TypeId} {v3 : Value} {l : List Int} {x : Int} (h : w3.ownsRow base e 1 v3 (0 + l.length + 1) ([] ++ ints (l.drop 0) ++ ints [x])) :
    ∃ g c', v3 = .slice (some ⟨g, 0, none⟩) (0 + l.length + 1) c' ∧ IC w3 (some ⟨g, 0, none⟩) (l ++ [x]) := by
  have e2 : [] ++ ints (l.drop 0) ++ ints [x] = ints (l ++ [x]) := by simp [ints]
  rw [e2] at h
  obtain ⟨g, c, rfl, -, -⟩ := own_someS h (by omega)
  exact ⟨g, c, rfl, ic_of' (Own.of h) (app_len l x)⟩
end Go.KD
namespace Go.Proofs.Ytcjcgcgcloanpaa
open Go.RowKit Go.KD
theorem implIsOpeningN_c (v : Value) (m : Mz) (aL : Option Addr) (cL n : Nat) (L : List Int) (w : World) (hn : n = L.length) (hm : MzAt w v m) (hL : IC w aL L) (hLl : L.length ≤ 1048576) (wl : ∀ y ∈ L, wfI y) : Calls Try.prog 9 #[v, .slice aL n cL] w fun e w' =>
    e = .returned (.tuple #[.bool (pIsOpening m L).1, .bool (pIsOpening m L).2]) ∧ Below w.heap.size w w' := by
  subst hn
  exact implIsOpening_c v m aL cL L w hm hL hLl wl
end Go.Proofs.Ytcjcgcgcloanpaa

namespace Go.KD
open Go.RowKit
theorem ic_grown2 {w w' : World} {a : Option Addr} {n c : Nat} {l : List Int} {row : Option Nat} (h : IC w a l) (hg : w.grownBy w' row) (hne : ∀ b, (Value.slice a n c).ownBlock = some b → 0 < l.length → row ≠ some b) : IC w' a l := by
  intro k hk
  obtain ⟨b, off, hb, hbs, hc⟩ := h k hk
  subst hb
  refine ⟨b, off, rfl, Nat.lt_of_lt_of_le hbs hg.size, ?_⟩
  rw [← hc]
  exact World.cell?_of_block (hg.block b hbs (fun e => hne b rfl (by omega) e.symm))
/-- A slice of numbers, in none of the blocks g, x, y; owned, if own is true. -/
structure RwE (own : Bool) (W : World) (lo : Nat) (eI : TypeId) (g x y : Nat) (v : Value) (L : List Int) : Prop where
  ic : ∃ a c, v = .slice a L.length c ∧ IC W a L
  ne : ∀ b, v.ownBlock = some b → (own = true ∨ 0 < L.length) → b ≠ g ∧ b ≠ x ∧ b ≠ y ∧ b < W.heap.size
  ow : own = true → Own lo W.heap.size W eI 1 v L.length (ints L)
theorem RwE.later {own : Bool} {W W' : World} {lo : Nat} {eI : TypeId} {g x y : Nat} {v : Value} {L : List Int} (h : RwE own W lo eI g x y v L) (hb : Below W.heap.size W W') : RwE own W' lo eI g x y v L := by
  obtain ⟨⟨a, c, hv, hi⟩, hn, ho⟩ := h
  have hz := hb.size
  exact ⟨⟨a, c, hv, hi.later hb⟩, fun b hbb hp => by obtain ⟨h1, h2, h3, h4⟩ := hn b hbb hp; exact ⟨h1, h2, h3, by omega⟩, fun h => ((ho h).later hb (Nat.le_refl _)).mono (Nat.le_refl _) hz⟩
theorem RwE.grown {own : Bool} {W W' : World} {lo : Nat} {eI : TypeId} {g x y : Nat} {v : Value} {L : List Int} {z : Nat} (h : RwE own W lo eI g x y v L) (hg : W.grownBy W' (some z)) (hz : z = g ∨ z = x ∨ z = y) : RwE own W' lo eI g x y v L := by
  obtain ⟨⟨a, c, hv, hi⟩, hn, ho⟩ := h
  have hs := hg.size
  have hne : ∀ b, v.ownBlock = some b → (own = true ∨ 0 < L.length) → b ≠ z := fun b hb hp => by obtain ⟨h1, h2, h3, _⟩ := hn b hb hp; rcases hz with rfl | rfl | rfl <;> assumption
  refine ⟨⟨a, c, hv, ic_grown2 (n := L.length) (c := c) hi hg fun b hb hp e => ?_⟩, fun b hb hp => by obtain ⟨h1, h2, h3, h4⟩ := hn b hb hp; exact ⟨h1, h2, h3, by omega⟩, fun h => ((ho h).grown_ne hg fun b hb e => ?_).mono (Nat.le_refl _) hs⟩
  · cases e; exact hne _ (by rw [hv]; exact hb) (.inr hp) rfl
  · cases e; exact hne _ hb (.inl h) rfl
/-- A row of such slices. -/
structure RwS (own : Bool) (W : World) (lo : Nat) (eS eI : TypeId) (g c x y : Nat) (vs : List Value) (Ls : List (List Int)) : Prop where
  row : W.ownsRow lo eS 1 (.slice (some ⟨g, 0, none⟩) Ls.length c) Ls.length vs
  each : ∀ i, i < Ls.length → RwE own W lo eI g x y vs[i]! Ls[i]!
  gs : g < W.heap.size
theorem RwS.len {own : Bool} {W : World} {lo : Nat} {eS eI : TypeId} {g c x y : Nat} {vs : List Value} {Ls : List (List Int)} (h : RwS own W lo eS eI g c x y vs Ls) : vs.length = Ls.length := by have := h.row.1; simpa using this
theorem RwS.later {own : Bool} {W W' : World} {lo : Nat} {eS eI : TypeId} {g c x y : Nat} {vs : List Value} {Ls : List (List Int)} (h : RwS own W lo eS eI g c x y vs Ls) (hb : Below W.heap.size W W') : RwS own W' lo eS eI g c x y vs Ls :=
  ⟨((Own.of h.row).later hb (Nat.le_refl _)).row, fun i hi => (h.each i hi).later hb, Nat.lt_of_lt_of_le h.gs hb.size⟩
theorem RwS.grown {own : Bool} {W W' : World} {lo : Nat} {eS eI : TypeId} {g c x y : Nat} {vs : List Value} {Ls : List (List Int)} {z : Nat} (h : RwS own W lo eS eI g c x y vs Ls) (hg : W.grownBy W' (some z)) (hz : z = x ∨ z = y) (hne : z ≠ g) : RwS own W' lo eS eI g c x y vs Ls :=
  ⟨((Own.of h.row).grown_ne hg (fun b hb e => by cases e; cases hb; exact hne rfl)).row, fun i hi => (h.each i hi).grown hg (.inr hz), Nat.lt_of_lt_of_le h.gs hg.size⟩
theorem RwS.cell {own : Bool} {W : World} {lo : Nat} {eS eI : TypeId} {g c x y : Nat} {vs : List Value} {Ls : List (List Int)} (h : RwS own W lo eS eI g c x y vs Ls) {i : Nat} (hi : i < Ls.length) : W.cell? ⟨g, i, none⟩ = some vs[i]! := by
  have hl := h.len
  rw [h.row.cellAt i (by omega), List.getElem?_eq_getElem (by omega), getElem!_pos vs i (by omega)]
theorem RwS.push {own : Bool} {W W' : World} {lo : Nat} {eS eI : TypeId} {g c x y g' c' : Nat} {vs : List Value} {Ls : List (List Int)} {v : Value} {L : List Int} (h : RwS own W lo eS eI g c x y vs Ls) (he : RwE own W lo eI g x y v L) (hx : x < W.heap.size) (hy : y < W.heap.size) (hgx : g ≠ x) (hgy : g ≠ y)
    (hown : W'.ownsRow lo eS 1 (.slice (some ⟨g', 0, none⟩) (Ls.length + 1) c') (Ls.length + 1) (vs ++ [v])) (hg : W.grownBy W' (some g)) (hat : g = g' ∨ W.heap.size ≤ g') (hlt : g' < W'.heap.size) :
    RwS own W' lo eS eI g' c' x y (vs ++ [v]) (Ls ++ [L]) ∧ g' ≠ x ∧ g' ≠ y := by
  have hl := h.len
  have hgs := h.gs
  refine ⟨⟨by rw [List.length_append]; exact hown, fun i hi => ?_, hlt⟩, by omega, by omega⟩
  have key : ∀ u M, RwE own W lo eI g x y u M → RwE own W' lo eI g' x y u M := by
    intro u M hu
    have h1 := hu.grown hg (.inl rfl)
    refine ⟨h1.ic, fun b hb hp => ?_, h1.ow⟩
    obtain ⟨n1, n2, n3, n4⟩ := h1.ne b hb hp
    obtain ⟨m1, m2, m3, m4⟩ := hu.ne b hb hp
    exact ⟨by omega, n2, n3, n4⟩
  by_cases hi' : i < Ls.length
  · have e1 : (vs ++ [v])[i]! = vs[i]! := by rw [getElem!_pos _ i (by simp; omega), getElem!_pos vs i (by omega), List.getElem_append_left]
    have e2 : (Ls ++ [L])[i]! = Ls[i]! := by rw [getElem!_pos _ i (by simp; omega), getElem!_pos Ls i hi', List.getElem_append_left]
    rw [e1, e2]
    exact key _ _ (h.each i hi')
  · have hi2 : i = Ls.length := by simp at hi; omega
    subst hi2
    have e1 : (vs ++ [v])[Ls.length]! = v := by rw [← hl, getElem!_pos _ _ (by simp)]; simp
    have e2 : (Ls ++ [L])[Ls.length]! = L := by rw [getElem!_pos _ _ (by simp)]; simp
    rw [e1, e2]
    exact key _ _ he
theorem news_one {W : World} {g : Nat} {v : Value} (h : W.cell? ⟨g, 0, none⟩ = some v) : ∀ j u, [v][j]? = some u → W.cell? ((⟨g, 0, none⟩ : Addr).add j) = some u := by
  intro j u hu
  cases j with
  | zero => rw [add_at rfl]; simpa [h] using hu
  | succ j => simp at hu
end Go.KD
namespace Go.Proofs.Ytcjcgcgcloanpaa
open Go.RowKit Go.KD
attribute [local go_sem] later_cell later_frozen
theorem infoS : (Try.prog.info? 25).map (fun i => (i.zero, i.size, i.bytes)) = some (some (.slice none 0 0), 1, 24) := by kernel_rfl
set_option maxHeartbeats 2000000 in
theorem l7Code_c (a1 : Option Addr) (c1 n1 : Nat) (lk : List Int) (a2 : Option Addr) (c2 n2 : Nat) (L : List Int) (w : World) (e1 : n1 = lk.length) (e2 : n2 = L.length) (h1 : IC w a1 lk) (h2 : IC w a2 L) (l1 : lk.length ≤ 10) (l2 : L.length ≤ 1048576) :
    Calls Try.prog 156 #[.slice a1 n1 c1, .slice a2 n2 c2] w fun e w' => e = .returned (.int .i64 (cdK lk (hasI L) lk.length : Nat)) ∧ w = w' := by
  subst e1 e2
  go_enter Try.func156, Try.ntmps156
  go_wp2
  go_loop [5, 6] (fun o i => ∃ k : Nat, k ≤ lk.length ∧ i = .int .i64 k ∧ o = .int .i64 (cdK lk (hasI L) k : Nat)) (fun _ i => lk.length - (intOf i).toNat)
  case atStart => exact ⟨0, Nat.zero_le _, rfl, rfl⟩
  case round =>
    obtain ⟨k, hk, rfl, rfl⟩ := hrel
    by_cases hlt : k < lk.length
    · have hkI : (k : Int) < (lk.length : Int) := by omega
      have hk63 : (k : Int) < 64 := by omega
      obtain ⟨b, off, x, rfl, HX, hbs, e0⟩ := h1.at k hlt
      have HS : Hid (cdK lk (hasI L) (k + 1) = if hasI L x then cdK lk (hasI L) k ||| 2 ^ k else cdK lk (hasI L) k) := by show _ = _; rw [← HX.out]; rfl
      have hcl : cdK lk (hasI L) k < 1024 := by
        have h3 := cdK_lt lk (hasI L) k
        have h4 : 2 ^ k ≤ 2 ^ 10 := Nat.pow_le_pow_right (by omega) (by omega)
        omega
      obtain ⟨p, HP, ep, hp⟩ := shl_at k (by omega)
      obtain ⟨cK, hcK⟩ : ∃ cK, cK = cdK lk (hasI L) k := ⟨_, rfl⟩
      rw [← hcK] at HS hcl ⊢
      have HCK := Lib.hid hcK
      clear hcK
      have eo : bits .or .i64 (cK : Int) (p : Int) = ((cK ||| p : Nat) : Int) := i64_or cK p (by omega) (by omega)
      rw [← HP.out] at HS
      go_wp2_with fail
      refine (l1Has_c _ _ _ L _ _ rfl h2 l2).mono ?_
      rintro e w1 ⟨rfl, rfl⟩
      cases hh : hasI L x
      case false =>
        rw [hh] at HS
        have HS2 := Lib.hid (show cdK lk (hasI L) (k + 1) = cK from HS.out)
        clear hh HS
        go_wp2
        go_round
        case rel => exact ⟨k + 1, by omega, by go_num, by rw [HS2.out]⟩
        case measure => simp [intOf]; omega
      case true =>
        rw [hh] at HS
        have HS2 := Lib.hid (show cdK lk (hasI L) (k + 1) = cK ||| p from HS.out)
        clear hh HS
        go_wp2
        go_round
        case rel => exact ⟨k + 1, by omega, by go_num, by rw [HS2.out]⟩
        case measure => simp [intOf]; omega
    · obtain rfl : k = lk.length := by omega
      go_wp2
      go_ret
      exact ⟨rfl, rfl⟩
end Go.Proofs.Ytcjcgcgcloanpaa
