/- Spent keys: what is near, what is left, what can be opened. No program is named here. -/
import Derived.Test.YtbaahghfjmkeoaaKdNode2
import Derived.Test.YtbaahghfjmkeoaaKdSteps2
import Derived.Test.YtbaahghfjmkeoaaKdLocks
set_option linter.unusedVariables false
set_option linter.unusedSimpArgs false
namespace Go.KD
open Go.RowKit
def openK (ds : List D3) (O k : Nat) : Bool := decide (ds[k]!.2.2 = 0) || O.testBit k
def nearD (ds : List D3) (O out k : Nat) : Nat :=
  if openK ds O k && (out.testBit ds[k]!.1.toNat != out.testBit ds[k]!.2.1.toNat) then setN (setN out ds[k]!.1) ds[k]!.2.1 else out
def passK (ds : List D3) (O out : Nat) : Nat → Nat
  | 0 => out
  | k + 1 => nearD ds O (passK ds O out k) k
def passN (m : Mz) (O out : Nat) : Nat := passK m.doors O out m.doors.length
def nearK (m : Mz) (O : Nat) : Nat → Nat
  | 0 => 1
  | j + 1 => passN m O (nearK m O j)
def nearN (m : Mz) (O : Nat) : Nat := nearK m O 4096
theorem nearD_sub (ds : List D3) (O out k : Nat) : SubN out (nearD ds O out k) := by
  intro i hi
  unfold nearD
  split
  · rw [setN_bit, setN_bit, hi]; rfl
  · exact hi
theorem passK_sub (ds : List D3) (O out : Nat) : ∀ k, SubN out (passK ds O out k)
  | 0 => fun i hi => hi
  | k + 1 => fun i hi => nearD_sub ds O _ k i (passK_sub ds O out k i hi)
theorem passK_sub2 (ds : List D3) (O out k : Nat) : ∀ j, SubN (passK ds O out k) (passK ds O out (k + j))
  | 0 => fun i hi => hi
  | j + 1 => fun i hi => nearD_sub ds O _ (k + j) i (passK_sub2 ds O out k j i hi)
theorem sub_le {a b : Nat} (h : SubN a b) : a ≤ b := by
  have e : a ||| b = b := by
    apply Nat.eq_of_testBit_eq
    intro i
    rw [Nat.testBit_or]
    cases ha : a.testBit i
    · simp
    · rw [h i ha]; simp
  have h2 : a ≤ a ||| b := Nat.left_le_or
  omega
theorem nearD_in {m : Mz} (ok : MzOk m) (O : Nat) {out k : Nat} (h : InM m out) (hk : k < m.doors.length) : InM m (nearD m.doors O out k) := by
  obtain ⟨a, b, c, hg⟩ : ∃ a b c, m.doors[k]! = (a, b, c) := ⟨_, _, _, rfl⟩
  have f := door_facts ok hk hg
  intro i hi
  unfold nearD at hi
  rw [hg] at hi
  dsimp only at hi
  split at hi
  · rw [setN_bit, setN_bit, Bool.or_eq_true, Bool.or_eq_true] at hi
    rcases hi with (hi | hi) | hi
    · exact h i hi
    · have : a.toNat = i := by simpa using hi
      omega
    · have : b.toNat = i := by simpa using hi
      omega
  · exact h i hi
theorem passK_in {m : Mz} (ok : MzOk m) (O : Nat) {out : Nat} (h : InM m out) : ∀ k, k ≤ m.doors.length → InM m (passK m.doors O out k)
  | 0, _ => h
  | k + 1, hk => nearD_in ok O (passK_in ok O h k (by omega)) (by omega)
theorem one_in {m : Mz} (ok : MzOk m) : InM m 1 := by
  intro i hi
  have : i < 1 := bit_lt (n := 1) (by decide) hi
  have := ok.s1; omega
theorem nearK_in {m : Mz} (ok : MzOk m) (O : Nat) : ∀ j, InM m (nearK m O j)
  | 0 => one_in ok
  | j + 1 => passK_in ok O (nearK_in ok O j) _ (Nat.le_refl _)
theorem nearK_end {m : Mz} {O j : Nat} (h : passN m O (nearK m O j) = nearK m O j) : ∀ i, nearK m O (j + i) = nearK m O j
  | 0 => rfl
  | i + 1 => by
    show passN m O (nearK m O (j + i)) = _
    rw [nearK_end h i, h]
theorem nearN_eq {m : Mz} {O j : Nat} (hj : j ≤ 4096) (h : passN m O (nearK m O j) = nearK m O j) : nearN m O = nearK m O j := by
  unfold nearN
  rw [show 4096 = j + (4096 - j) from by omega, nearK_end h]
theorem passN_grows {m : Mz} {O out : Nat} (h : passN m O out ≠ out) : out < passN m O out := by
  have := sub_le (passK_sub m.doors O out m.doors.length)
  unfold passN at *
  omega
theorem nearN_fix {m : Mz} (ok : MzOk m) (O : Nat) : passN m O (nearN m O) = nearN m O := by
  obtain ⟨k, hk, h⟩ := grow_fix (fun k => nearK m O k) (fun k => passN m O (nearK m O k) = nearK m O k) (fun k => by
    by_cases h : passN m O (nearK m O k) = nearK m O k
    · exact .inl h
    · exact .inr (passN_grows h)) (fun k => (nearK_in ok O k).lt ok)
  rw [nearN_eq (by omega) h]; exact h
theorem nearN_in {m : Mz} (ok : MzOk m) (O : Nat) : InM m (nearN m O) := nearK_in ok O _
/-- What is near is closed. -/
theorem pass_fix {ds : List D3} {O out n : Nat} (h : passK ds O out n = out) : ∀ k, k < n → openK ds O k = true → (out.testBit ds[k]!.1.toNat = out.testBit ds[k]!.2.1.toNat) := by
  have hall : ∀ k, k ≤ n → passK ds O out k = out := by
    intro k hk
    have h1 := passK_sub ds O out k
    have h2 := passK_sub2 ds O out k (n - k)
    rw [show k + (n - k) = n from by omega, h] at h2
    exact SubN.antisymm h2 h1
  intro k hk ho
  have h1 := hall (k + 1) (by omega)
  have h2 : passK ds O out (k + 1) = nearD ds O out k := by
    show nearD ds O (passK ds O out k) k = _
    rw [hall k (by omega)]
  rw [h1] at h2
  cases hx : (out.testBit ds[k]!.1.toNat != out.testBit ds[k]!.2.1.toNat)
  · simpa using hx
  · exfalso
    unfold nearD at h2
    rw [ho, hx] at h2
    simp only [Bool.and_self, if_true] at h2
    have ha := congrArg (fun z => Nat.testBit z ds[k]!.1.toNat) h2
    have hb := congrArg (fun z => Nat.testBit z ds[k]!.2.1.toNat) h2
    simp only [setN_bit, decide_true, Bool.or_true, Bool.true_or] at ha hb
    rw [ha, hb] at hx
    simp at hx
theorem nearK_sub {m : Mz} {O C : Nat} (h0 : C.testBit 0 = true) (hc : ∀ k, k < m.doors.length → openK m.doors O k = true → C.testBit m.doors[k]!.1.toNat = C.testBit m.doors[k]!.2.1.toNat) : ∀ j, SubN (nearK m O j) C
  | 0 => by
    intro i hi
    have hi : Nat.testBit 1 i = true := hi
    have : i < 1 := bit_lt (n := 1) (by decide) hi
    obtain rfl : i = 0 := by omega
    exact h0
  | j + 1 => by
    have ih := nearK_sub h0 hc j
    have : ∀ k, k ≤ m.doors.length → SubN (passK m.doors O (nearK m O j) k) C := by
      intro k
      induction k with
      | zero => intro _; exact ih
      | succ k ihk =>
        intro hk i hi
        have ihk := ihk (by omega)
        have hi : (nearD m.doors O (passK m.doors O (nearK m O j) k) k).testBit i = true := hi
        unfold nearD at hi
        split at hi
        · rename_i hcond
          rw [Bool.and_eq_true] at hcond
          have heq := hc k (by omega) hcond.1
          have hne : (passK m.doors O (nearK m O j) k).testBit m.doors[k]!.1.toNat ≠ (passK m.doors O (nearK m O j) k).testBit m.doors[k]!.2.1.toNat := by simpa using hcond.2
          have hboth : C.testBit m.doors[k]!.1.toNat = true ∧ C.testBit m.doors[k]!.2.1.toNat = true := by
            cases ha : (passK m.doors O (nearK m O j) k).testBit m.doors[k]!.1.toNat
            · cases hb : (passK m.doors O (nearK m O j) k).testBit m.doors[k]!.2.1.toNat
              · rw [ha, hb] at hne; exact absurd rfl hne
              · have := ihk _ hb; rw [heq]; exact ⟨this, this⟩
            · have := ihk _ ha; exact ⟨this, by rw [← heq]; exact this⟩
          rw [setN_bit, setN_bit, Bool.or_eq_true, Bool.or_eq_true] at hi
          rcases hi with (hi | hi) | hi
          · exact ihk i hi
          · have : m.doors[k]!.1.toNat = i := by simpa using hi
            rw [← this]; exact hboth.1
          · have : m.doors[k]!.2.1.toNat = i := by simpa using hi
            rw [← this]; exact hboth.2
        · exact ihk i hi
    exact this _ (Nat.le_refl _)
theorem nearK_zero {m : Mz} (O : Nat) : ∀ j, (nearK m O j).testBit 0 = true
  | 0 => by show Nat.testBit 1 0 = true; decide
  | j + 1 => passK_sub m.doors O (nearK m O j) m.doors.length 0 (nearK_zero O j)
theorem near_mono {m : Mz} (ok : MzOk m) {O O' : Nat} (h : SubN O O') : SubN (nearN m O) (nearN m O') := by
  have hf := pass_fix (nearN_fix ok O')
  refine nearK_sub (nearK_zero O' _) (fun k hk ho => hf k hk ?_) _
  unfold openK at *
  rw [Bool.or_eq_true] at *
  rcases ho with ho | ho
  · exact .inl ho
  · exact .inr (h k ho)
/-! What is left -/
def cntK (m : Mz) (N c : Nat) : Nat := (mem N).countP fun x => (m.keys[x.toNat]!.toNat).testBit c
def cntD (m : Mz) (L : List Int) (c : Nat) : Nat := L.countP fun k => (m.doors[k.toNat]!.2.2.toNat).testBit c
def leftC (m : Mz) (N : Nat) (L : List Int) (c : Nat) : Int := (cntK m N c : Int) - (cntD m L c : Int)
def leftL (m : Mz) (N : Nat) (L : List Int) : List Int := (List.range 6).map fun c => leftC m N L c
theorem leftL_at (m : Mz) (N : Nat) (L : List Int) (c : Nat) (hc : c < 6) : (leftL m N L)[c]! = leftC m N L c := by
  rw [getElem!_pos _ _ (by simp [leftL]; omega)]; simp [leftL]
@[simp] theorem leftL_len (m : Mz) (N : Nat) (L : List Int) : (leftL m N L).length = 6 := by simp [leftL]
theorem cntK_mono {m : Mz} {N N' : Nat} (h : SubN N N') (c : Nat) : cntK m N c ≤ cntK m N' c := by
  unfold cntK mem memN
  rw [List.countP_map, List.countP_map, List.countP_filter, List.countP_filter]
  refine List.countP_mono_left fun i hi hp => ?_
  simp only [Bool.and_eq_true] at hp ⊢
  exact ⟨hp.1, h i hp.2⟩
/-- Can the lock k be opened? -/
def canK (m : Mz) (O : Nat) (L : List Int) (k : Nat) : Bool :=
  !O.testBit k && ((nearN m O).testBit m.doors[k]!.1.toNat || (nearN m O).testBit m.doors[k]!.2.1.toNat) && (List.range 6).all fun c => !(m.doors[k]!.2.2.toNat.testBit c) || decide (1 ≤ leftC m (nearN m O) L c)
def nextK (m : Mz) (O : Nat) (L : List Int) (n : Nat) : List Int := ((List.range n).filter fun k => isLock m.doors k && canK m O L k).map fun (k : Nat) => (k : Int)
def nextL (m : Mz) (O : Nat) (L : List Int) : List Int := nextK m O L m.doors.length
/-! Openings -/
def opK (m : Mz) (L : List Int) : Nat → Option Nat
  | 0 => some 0
  | i + 1 => match opK m L i with | none => none | some O => if hasI (nextL m O (L.take i)) L[i]! then some (setN O L[i]!) else none
structure OpOk (m : Mz) (O : Nat) (L : List Int) : Prop where
  nd : L.Nodup
  mem : ∀ y, y ∈ L ↔ y ∈ mem O
  lt : ∀ i, O.testBit i = true → i < m.doors.length
  left : ∀ c, c < 6 → 0 ≤ leftC m (nearN m O) L c
theorem in_nextK {m : Mz} {O : Nat} {L : List Int} {n : Nat} {y : Int} : y ∈ nextK m O L n ↔ ∃ k : Nat, k < n ∧ isLock m.doors k = true ∧ canK m O L k = true ∧ y = k := by
  unfold nextK
  simp only [List.mem_map, List.mem_filter, List.mem_range, Bool.and_eq_true]
  constructor
  · rintro ⟨k, ⟨h1, h2, h3⟩, rfl⟩; exact ⟨k, h1, h2, h3, rfl⟩
  · rintro ⟨k, h1, h2, h3, rfl⟩; exact ⟨k, ⟨h1, h2, h3⟩, rfl⟩
theorem op_step {m : Mz} (ok : MzOk m) {O : Nat} {L : List Int} (h : OpOk m O L) {y : Int} (hy : y ∈ nextL m O L) : OpOk m (setN O y) (L ++ [y]) := by
  obtain ⟨k, hk, hl, hc, rfl⟩ := in_nextK.1 hy
  unfold canK at hc
  simp only [Bool.and_eq_true, Bool.not_eq_true', List.all_eq_true, List.mem_range] at hc
  obtain ⟨⟨h1, h2⟩, h3⟩ := hc
  have hnd := ok.nd
  have hbit : ∀ i, (setN O (k : Int)).testBit i = (O.testBit i || decide (k = i)) := fun i => by rw [setN_bit]; simp
  have hsub : SubN O (setN O (k : Int)) := fun i hi => by rw [hbit, hi]; rfl
  refine ⟨?_, fun z => ?_, fun i hi => ?_, fun c hc => ?_⟩
  · rw [List.nodup_append]
    refine ⟨h.nd, by simp, fun a ha b hb => ?_⟩
    have hb : b = (k : Int) := by simpa using hb
    rintro rfl
    obtain ⟨i, _, hi, he⟩ := (in_mem O _).1 ((h.mem a).1 ha)
    have : i = k := by omega
    rw [this, h1] at hi; cases hi
  · rw [List.mem_append, h.mem z, in_mem, in_mem]
    constructor
    · rintro (⟨i, hi, hb, rfl⟩ | hz)
      · exact ⟨i, hi, hsub i hb, rfl⟩
      · have hz : z = (k : Int) := by simpa using hz
        exact ⟨k, by omega, by rw [hbit]; simp, hz⟩
    · rintro ⟨i, hi, hb, rfl⟩
      rw [hbit, Bool.or_eq_true] at hb
      rcases hb with hb | hb
      · exact .inl ⟨i, hi, hb, rfl⟩
      · right; have : k = i := by simpa using hb
        simp [this]
  · rw [hbit, Bool.or_eq_true] at hi
    rcases hi with hi | hi
    · exact h.lt i hi
    · have : k = i := by simpa using hi
      omega
  · have hm := cntK_mono (m := m) (near_mono ok hsub) c
    have h0 := h.left c hc
    have h3 := h3 c hc
    have hd : cntD m (L ++ [(k : Int)]) c = cntD m L c + if (m.doors[k]!.2.2.toNat).testBit c then 1 else 0 := by
      unfold cntD
      rw [List.countP_append, List.countP_singleton]
      simp
    unfold leftC at *
    rw [hd]
    split
    · rename_i hb
      rw [hb] at h3
      have : 1 ≤ (cntK m (nearN m O) c : Int) - (cntD m L c : Int) := by simpa using h3
      omega
    · omega
theorem op_none {m : Mz} (ok : MzOk m) : OpOk m 0 [] :=
  ⟨by simp, fun y => by rw [show mem 0 = [] from by decide], fun i hi => by simp at hi, fun c _ => by unfold leftC cntD; simp⟩
theorem opK_ok {m : Mz} (ok : MzOk m) {L : List Int} : ∀ i O, i ≤ L.length → opK m L i = some O → OpOk m O (L.take i)
  | 0, O, _, h => by
    simp only [opK, Option.some.injEq] at h
    subst h
    exact op_none ok
  | i + 1, O, hi, h => by
    unfold opK at h
    split at h
    · cases h
    · rename_i O' h'
      have ih := opK_ok ok i O' (by omega) h'
      split at h
      · rename_i hh
        simp only [Option.some.injEq] at h
        rw [hasI_iff] at hh
        rw [← h, take_snoc (by omega)]
        exact op_step ok ih hh
      · cases h
theorem opK_none {m : Mz} {L : List Int} {k : Nat} (h : opK m L k = none) : ∀ j, opK m L (k + j) = none
  | 0 => h
  | j + 1 => by show opK m L ((k + j) + 1) = none; unfold opK; rw [opK_none h j]
/-- The order of a list of locks is of no matter. -/
theorem cntD_perm {m : Mz} {O : Nat} {L : List Int} (h : OpOk m O L) (c : Nat) : cntD m (mem O) c = cntD m L c := by
  unfold cntD
  refine List.Perm.countP_eq _ ?_
  refine (List.perm_ext_iff_of_nodup ?_ h.nd).2 fun y => (h.mem y).symm
  exact (Go.KD.mem_sorted O).imp fun h => by omega
theorem leftC_perm {m : Mz} {O : Nat} {L : List Int} (h : OpOk m O L) (N c : Nat) : leftC m N (mem O) c = leftC m N L c := by unfold leftC; rw [cntD_perm h]
theorem leftL_perm {m : Mz} {O : Nat} {L : List Int} (h : OpOk m O L) (N : Nat) : leftL m N (mem O) = leftL m N L := by
  unfold leftL
  exact List.map_congr_left fun c _ => leftC_perm h N c
end Go.KD
