/- Clutters: plain words. -/
import Derived.Test.YtmilpahggceemaaKdNode2
set_option linter.unusedVariables false
set_option linter.unusedSimpArgs false
namespace Go.KD
open Go.RowKit
def keyS (s : Nat) : Nat := popN s * 64 + s
def ordS : List Nat := (List.range 7).flatMap fun k => (List.range 64).filter fun s => popN s == k
theorem ordS_sorted : ordS.Pairwise (fun a b => keyS a < keyS b) := by decide +kernel
theorem ordS_all : ∀ s, s < 64 → s ∈ ordS := by decide +kernel
theorem ordS_lt : ∀ s ∈ ordS, s < 64 := by decide +kernel
theorem keyS_inj : ∀ a, a < 64 → ∀ b, b < 64 → keyS a = keyS b → a = b := by
  intro a ha b hb h
  unfold keyS at h
  omega
theorem subS_pop : ∀ t, t < 64 → ∀ s, s < 64 → subB t s = true → t ≠ s → popN t < popN s := by decide +kernel
theorem subS_key {t s : Nat} (ht : t < 64) (hs : s < 64) (h : subB t s = true) (hne : t ≠ s) : keyS t < keyS s := by
  have := subS_pop t ht s hs h hne
  unfold keyS; omega
theorem subB_refl (s : Nat) : subB s s = true := subB_iff.2 fun _ h => h
theorem subB_trans {a b c : Nat} (h : subB a b = true) (k : subB b c = true) : subB a c = true := by
  rw [subB_iff] at *; exact fun i hi => k i (h i hi)
theorem subB_anti {a b : Nat} (h : subB a b = true) (k : subB b a = true) : a = b := by
  rw [subB_iff] at *
  apply Nat.eq_of_testBit_eq
  intro i
  cases ha : a.testBit i
  · cases hb : b.testBit i
    · rfl
    · rw [k i hb] at ha; cases ha
  · rw [h i ha]
/-- One set in the family tells all greater ones. -/
def upB (l : List Nat) (s : Nat) : Bool := l.any fun t => subB t s
/-- The least sets, in order. -/
def lstL (is : Nat → Bool) : List Nat := ordS.filter fun s => is s && (List.range 6).all fun c => !(s.testBit c && is (s ^^^ 2 ^ c))
def keepC (out : List Nat) (s : Nat) : List Nat := if out.any (fun o => subB o s) then out else out ++ [s]
def clutF (S : List Nat) : List Nat := S.foldl keepC []
/-- s is one of the least of l. -/
def isMin (l : List Nat) (s : Nat) : Prop := s ∈ l ∧ ∀ t ∈ l, subB t s = true → t = s
theorem lst_min {l : List Nat} (hl : ∀ t ∈ l, t < 64) {s : Nat} : s ∈ lstL (upB l) ↔ isMin l s := by
  unfold lstL isMin
  rw [List.mem_filter]
  have hbit : ∀ s c i, (s ^^^ 2 ^ c).testBit i = (s.testBit i != decide (c = i)) := fun s c i => by
    rw [Nat.testBit_xor, Nat.testBit_two_pow]
  constructor
  · rintro ⟨ho, hs⟩
    have hs64 := ordS_lt s ho
    simp only [Bool.and_eq_true, List.all_eq_true, List.mem_range, Bool.not_eq_true', upB, List.any_eq_true] at hs
    obtain ⟨⟨t, ht, hts⟩, hall⟩ := hs
    have key : ∀ t ∈ l, subB t s = true → t = s := by
      intro t ht hts
      refine Classical.byContradiction fun hne => ?_
      obtain ⟨c, hc1, hc2⟩ : ∃ c, s.testBit c = true ∧ t.testBit c = false := by
        refine Classical.byContradiction fun hn => hne (subB_anti hts (subB_iff.2 fun i hi => ?_))
        cases hb : t.testBit i
        · exact absurd ⟨i, hi, hb⟩ hn
        · rfl
      have hc6 : c < 6 := bit_lt (n := 6) hs64 hc1
      have h2 := hall c hc6
      rw [hc1, Bool.true_and] at h2
      rw [← Bool.not_eq_true, List.any_eq_true] at h2
      refine h2 ⟨t, ht, subB_iff.2 fun i hi => ?_⟩
      by_cases e : c = i
      · subst e; rw [hc2] at hi; cases hi
      · rw [hbit, subB_iff.1 hts i hi]; simp [e]
    have := key t ht hts
    subst this
    exact ⟨ht, key⟩
  · rintro ⟨hs, hm⟩
    have hs64 := hl s hs
    refine ⟨ordS_all s hs64, ?_⟩
    simp only [Bool.and_eq_true, List.all_eq_true, List.mem_range, Bool.not_eq_true']
    refine ⟨List.any_eq_true.2 ⟨s, hs, subB_refl s⟩, fun c hc => ?_⟩
    cases hb : s.testBit c
    · rfl
    · rw [Bool.true_and, ← Bool.not_eq_true]
      intro hu
      obtain ⟨t, ht, hts⟩ := List.any_eq_true.1 hu
      have hsub : subB t s = true := subB_iff.2 fun i hi => by
        have := subB_iff.1 hts i hi
        rw [hbit] at this
        by_cases e : c = i
        · subst e; exact hb
        · simpa [e] using this
      have := hm t ht hsub
      subst this
      have := subB_iff.1 hts c hb
      rw [hbit, hb] at this
      simp at this
/-- What is kept of a sorted list. -/
structure KpInv (P out : List Nat) : Prop where
  sub : ∀ o ∈ out, o ∈ P
  has : ∀ s ∈ P, ∃ o ∈ out, subB o s = true
  srt : out.Pairwise (fun a b => keyS a < keyS b)
  ant : out.Pairwise (fun a b => subB a b = false)
theorem kp_step {P out : List Nat} {s : Nat} (h : KpInv P out) (hP : ∀ t ∈ P, keyS t ≤ keyS s) (h64 : ∀ t ∈ P, t < 64) (hs : s < 64) : KpInv (P ++ [s]) (keepC out s) := by
  unfold keepC
  split
  · rename_i ha
    obtain ⟨o, ho, hos⟩ := List.any_eq_true.1 ha
    refine ⟨fun o ho => List.mem_append_left _ (h.sub o ho), fun t ht => ?_, h.srt, h.ant⟩
    rw [List.mem_append] at ht
    rcases ht with ht | ht
    · exact h.has t ht
    · have : t = s := by simpa using ht
      rw [this]; exact ⟨o, ho, hos⟩
  · rename_i ha
    have hn : ∀ o ∈ out, subB o s = false := fun o ho => by
      cases hb : subB o s
      · rfl
      · exact absurd (List.any_eq_true.2 ⟨o, ho, hb⟩) ha
    refine ⟨fun o ho => ?_, fun t ht => ?_, ?_, ?_⟩
    · rw [List.mem_append] at ho ⊢
      rcases ho with ho | ho
      · exact .inl (h.sub o ho)
      · exact .inr ho
    · rw [List.mem_append] at ht
      rcases ht with ht | ht
      · obtain ⟨o, ho, hos⟩ := h.has t ht
        exact ⟨o, List.mem_append_left _ ho, hos⟩
      · have : t = s := by simpa using ht
        rw [this]; exact ⟨s, List.mem_append_right _ (by simp), subB_refl s⟩
    · rw [List.pairwise_append]
      refine ⟨h.srt, by simp, fun a ha' b hb => ?_⟩
      have hbs : b = s := by simpa using hb
      rw [hbs]
      have h1 := hP a (h.sub a ha')
      have h2 := hn a ha'
      rcases Nat.lt_or_ge (keyS a) (keyS s) with h3 | h3
      · exact h3
      · have := keyS_inj a (h64 a (h.sub a ha')) s hs (by omega)
        rw [this, subB_refl] at h2; cases h2
    · rw [List.pairwise_append]
      refine ⟨h.ant, by simp, fun a ha' b hb => ?_⟩
      have hbs : b = s := by simpa using hb
      rw [hbs]; exact hn a ha'
theorem kp_all : ∀ (S P out : List Nat), KpInv P out → (P ++ S).Pairwise (fun a b => keyS a ≤ keyS b) → (∀ t ∈ P ++ S, t < 64) → KpInv (P ++ S) (S.foldl keepC out)
  | [], P, out, h, _, _ => by simpa using h
  | s :: S, P, out, h, hp, h64 => by
    have h1 := kp_step (s := s) h (fun t ht => (List.pairwise_append.1 hp).2.2 t ht s (by simp)) (fun t ht => h64 t (List.mem_append_left _ ht)) (h64 s (by simp))
    have := kp_all S (P ++ [s]) (keepC out s) h1 (by simpa using hp) (by simpa using h64)
    simpa using this
theorem kp_nil : KpInv [] [] := ⟨fun _ h => h, fun _ h => (by cases h), List.Pairwise.nil, List.Pairwise.nil⟩
theorem clutF_inv {S : List Nat} (hp : S.Pairwise (fun a b => keyS a ≤ keyS b)) (h64 : ∀ t ∈ S, t < 64) : KpInv S (clutF S) := by
  have := kp_all S [] [] kp_nil (by simpa using hp) (by simpa using h64)
  rw [List.nil_append] at this
  exact this
theorem KpInv.min {P out : List Nat} (h : KpInv P out) (h64 : ∀ t ∈ P, t < 64) {s : Nat} : s ∈ out ↔ isMin P s := by
  constructor
  · intro hs
    refine ⟨h.sub s hs, fun t ht hts => ?_⟩
    obtain ⟨o, ho, hot⟩ := h.has t ht
    have hos := subB_trans hot hts
    have : o = s := by
      refine Classical.byContradiction fun hne => ?_
      obtain ⟨i, hi, hio⟩ := List.mem_iff_getElem.1 ho
      obtain ⟨j, hj, hjs⟩ := List.mem_iff_getElem.1 hs
      rcases Nat.lt_trichotomy i j with hl | hl | hl
      · have := List.pairwise_iff_getElem.1 h.ant i j hi hj hl
        rw [hio, hjs, hos] at this; cases this
      · subst hl; exact hne (hio.symm.trans hjs)
      · have h1 := List.pairwise_iff_getElem.1 h.srt j i hj hi hl
        rw [hio, hjs] at h1
        have h2 := subS_key (h64 o (h.sub o ho)) (h64 s (h.sub s hs)) hos hne
        omega
    rw [this] at hot
    exact subB_anti hts hot
  · rintro ⟨hs, hm⟩
    obtain ⟨o, ho, hos⟩ := h.has s hs
    have := hm o (h.sub o ho) hos
    rw [← this]; exact ho
theorem key_ext : ∀ (a b : List Nat), a.Pairwise (fun a b => keyS a < keyS b) → b.Pairwise (fun a b => keyS a < keyS b) → (∀ x, x ∈ a ↔ x ∈ b) → a = b
  | [], [], _, _, _ => rfl
  | [], y :: b, _, _, h => absurd ((h y).2 (by simp)) (by simp)
  | x :: a, [], _, _, h => absurd ((h x).1 (by simp)) (by simp)
  | x :: a, y :: b, ha, hb, h => by
    rw [List.pairwise_cons] at ha hb
    have hxy : x = y := by
      rcases List.mem_cons.1 ((h x).1 (by simp)) with e | e
      · exact e
      · rcases List.mem_cons.1 ((h y).2 (by simp)) with e' | e'
        · exact e'.symm
        · have h1 := hb.1 x e; have h2 := ha.1 y e'; omega
    subst hxy
    congr 1
    refine key_ext a b ha.2 hb.2 fun z => ⟨fun hz => ?_, fun hz => ?_⟩
    · rcases List.mem_cons.1 ((h z).1 (List.mem_cons_of_mem _ hz)) with e | e
      · have := ha.1 z hz; rw [e] at this; omega
      · exact e
    · rcases List.mem_cons.1 ((h z).2 (List.mem_cons_of_mem _ hz)) with e | e
      · have := hb.1 z hz; rw [e] at this; omega
      · exact e
theorem lstL_sorted (is : Nat → Bool) : (lstL is).Pairwise (fun a b => keyS a < keyS b) := List.Pairwise.filter _ ordS_sorted
theorem lstL_lt {is : Nat → Bool} {s : Nat} (h : s ∈ lstL is) : s < 64 := ordS_lt s (List.mem_filter.1 h).1
theorem lstL_congr {is is' : Nat → Bool} (h : ∀ s, s < 64 → is s = is' s) : lstL is = lstL is' := by
  unfold lstL
  refine List.filter_congr fun s hs => ?_
  have h64 := ordS_lt s hs
  rw [h s h64]
  congr 1
  rw [Bool.eq_iff_iff, List.all_eq_true, List.all_eq_true]
  refine forall_congr' fun c => forall_congr' fun hc => ?_
  have hc6 := List.mem_range.1 hc
  have : s ^^^ 2 ^ c < 64 := Nat.xor_lt_two_pow (n := 6) h64 (Nat.pow_lt_pow_right (by omega) hc6)
  rw [h _ this]
/-- What a clutter of a sorted list is. -/
theorem clut_eq {l S : List Nat} (hp : S.Perm l) (hs : S.Pairwise (fun a b => keyS a ≤ keyS b)) (hl : ∀ t ∈ l, t < 64) : clutF S = lstL (upB l) := by
  have hS : ∀ t ∈ S, t < 64 := fun t ht => hl t (hp.mem_iff.1 ht)
  have hI := clutF_inv hs hS
  refine key_ext _ _ hI.srt (lstL_sorted _) fun s => ?_
  rw [hI.min hS, lst_min hl]
  unfold isMin
  simp only [hp.mem_iff]
/-- A family that is so with more colours, too, is told by its sets. -/
theorem up_those {is : Nat → Bool} (hm : ∀ a b, a < 64 → b < 64 → subB a b = true → is a = true → is b = true) {s : Nat} (hs : s < 64) : upB ((List.range 64).filter is) s = is s := by
  rw [Bool.eq_iff_iff]
  unfold upB
  rw [List.any_eq_true]
  constructor
  · rintro ⟨t, ht, hts⟩
    rw [List.mem_filter, List.mem_range] at ht
    exact hm t s ht.1 hs hts ht.2
  · intro h
    exact ⟨s, by rw [List.mem_filter, List.mem_range]; exact ⟨hs, h⟩, subB_refl s⟩
/-- Is a list its own clutter? -/
def isClS (l : List Nat) : Bool := (List.range l.length).all fun i => (decide (i = 0) || decide (keyS l[i - 1]! < keyS l[i]!)) && (List.range i).all fun k => !(subB l[k]! l[i]!)
theorem clS_iff {l : List Nat} : isClS l = true ↔ l.Pairwise (fun a b => keyS a < keyS b) ∧ l.Pairwise (fun a b => subB a b = false) := by
  unfold isClS
  simp only [List.all_eq_true, List.mem_range, Bool.and_eq_true, Bool.or_eq_true, decide_eq_true_eq, Bool.not_eq_true']
  constructor
  · intro h
    have hk : ∀ i j, i < j → j < l.length → keyS l[i]! < keyS l[j]! := by
      intro i j hij
      induction j with
      | zero => omega
      | succ j ih =>
        intro hj
        have h1 := (h (j + 1) hj).1
        rcases h1 with h1 | h1
        · omega
        · rw [Nat.add_sub_cancel] at h1
          by_cases e : i = j
          · subst e; exact h1
          · have := ih (by omega) (by omega); omega
    refine ⟨List.pairwise_iff_getElem.2 fun i j hi hj hij => ?_, List.pairwise_iff_getElem.2 fun i j hi hj hij => ?_⟩
    · have := hk i j hij hj
      rwa [getElem!_pos l i hi, getElem!_pos l j hj] at this
    · have := (h j hj).2 i hij
      rwa [getElem!_pos l i hi, getElem!_pos l j hj] at this
  · rintro ⟨h1, h2⟩ i hi
    refine ⟨?_, fun k hk => ?_⟩
    · by_cases e : i = 0
      · exact .inl e
      · right
        have := List.pairwise_iff_getElem.1 h1 (i - 1) i (by omega) hi (by omega)
        rwa [getElem!_pos l i hi, getElem!_pos l (i - 1) (by omega)]
    · have := List.pairwise_iff_getElem.1 h2 k i (by omega) hi hk
      rwa [getElem!_pos l i hi, getElem!_pos l k (by omega)]
theorem keep_all : ∀ (S out : List Nat), (out ++ S).Pairwise (fun a b => subB a b = false) → S.foldl keepC out = out ++ S
  | [], out, _ => by simp
  | s :: S, out, h => by
    have hn : out.any (fun o => subB o s) = false := by
      rw [← Bool.not_eq_true, List.any_eq_true]
      rintro ⟨o, ho, hos⟩
      have := (List.pairwise_append.1 h).2.2 o ho s (by simp)
      rw [hos] at this; cases this
    have hk : keepC out s = out ++ [s] := by unfold keepC; rw [hn, if_neg (by simp)]
    show S.foldl keepC (keepC out s) = _
    rw [hk, keep_all S (out ++ [s]) (by simpa using h)]
    simp
theorem cl_own {l S : List Nat} (hp : S.Perm l) (hs : S.Pairwise (fun a b => keyS a ≤ keyS b)) (hl : ∀ t ∈ l, t < 64) : clutF S = l ↔ isClS l = true := by
  have hS : ∀ t ∈ S, t < 64 := fun t ht => hl t (hp.mem_iff.1 ht)
  have hI := clutF_inv hs hS
  rw [clS_iff]
  constructor
  · intro h
    rw [h] at hI
    exact ⟨hI.srt, hI.ant⟩
  · rintro ⟨h1, h2⟩
    have hnd : S.Nodup := hp.nodup_iff.2 (h1.imp fun h e => by rw [e] at h; omega)
    have hst : S.Pairwise (fun a b => keyS a < keyS b) := by
      refine List.pairwise_iff_getElem.2 fun i j hi hj hij => ?_
      have a1 := List.pairwise_iff_getElem.1 hs i j hi hj hij
      have a2 := List.pairwise_iff_getElem.1 hnd i j hi hj hij
      rcases Nat.lt_or_ge (keyS S[i]) (keyS S[j]) with h | h
      · exact h
      · exact absurd (keyS_inj _ (hS _ (List.getElem_mem hi)) _ (hS _ (List.getElem_mem hj)) (by omega)) a2
    have : S = l := key_ext _ _ hst h1 fun x => hp.mem_iff
    rw [this]
    unfold clutF
    rw [keep_all l [] (by simpa using h2)]
    simp
end Go.KD
