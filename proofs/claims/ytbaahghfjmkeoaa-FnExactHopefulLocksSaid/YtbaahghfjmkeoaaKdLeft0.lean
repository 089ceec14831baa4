/- Rows of six counts. No program is named here. -/
import Derived.Test.YtbaahghfjmkeoaaKdNear2
set_option linter.unusedVariables false
set_option linter.unusedSimpArgs false
namespace Go.KD
open Go.RowKit
theorem own_intZ {w : World} {lo g n cap : Nat} {e : TypeId} {L : List Int} (h : w.ownsRow lo e 1 (.slice (some ⟨g, 0, none⟩) n cap) n (ints L)) (c : Nat) (hc : c < n) (hl : L.length = n) : w.cell? ⟨g, c, none⟩ = some (.int .i64 L[c]!) := by
  rw [h.cellAt c (by omega), ints, List.getElem?_map, List.getElem?_eq_getElem (by omega), getElem!_pos L c (by omega)]
  rfl
def row6 (f : Nat → Int) : List Int := (List.range 6).map f
@[simp] theorem row6_len (f : Nat → Int) : (row6 f).length = 6 := by simp [row6]
theorem row6_at {f : Nat → Int} {c : Nat} (hc : c < 6) : (row6 f)[c]! = f c := by
  rw [getElem!_pos _ _ (by simpa using hc)]; simp [row6]
theorem row6_congr {f g : Nat → Int} (h : ∀ c, c < 6 → f c = g c) : row6 f = row6 g := List.map_congr_left fun c hc => h c (List.mem_range.1 hc)
theorem row6_set (f : Nat → Int) (c : Nat) (v : Int) : (row6 f).set c v = row6 fun d => if d = c then v else f d := by
  apply List.ext_getElem
  · simp
  · intro i h1 h2
    rw [List.getElem_set]
    simp only [row6, List.getElem_map, List.getElem_range]
    by_cases h : c = i
    · subst h; simp
    · rw [if_neg h, if_neg (fun e => h e.symm)]
def inL (L : List Int) (c : Nat) : Int := if hasI L c then 1 else 0
theorem inL_nil (c : Nat) : inL [] c = 0 := by simp [inL, hasI, anyP]
theorem inL_bound (L : List Int) (c : Nat) : 0 ≤ inL L c ∧ inL L c ≤ 1 := by unfold inL; split <;> omega
theorem inL_step {L : List Int} {j c0 : Nat} (hj : j < L.length) (hnd : L.Nodup) (h0 : L[j]! = (c0 : Int)) (c : Nat) : inL (L.take (j + 1)) c = inL (L.take j) c + if c = c0 then 1 else 0 := by
  have h0' : L[j] = (c0 : Int) := by rw [← h0, getElem!_pos L j hj]
  have hn : hasI (L.take j) (c0 : Int) = false := by
    cases e : hasI (L.take j) (c0 : Int)
    · rfl
    · rw [hasI_iff, List.mem_take_iff_getElem] at e
      obtain ⟨i, hi, he⟩ := e
      have hij : i < j := by omega
      have := (List.nodup_iff_pairwise_ne.1 hnd)
      rw [List.pairwise_iff_getElem] at this
      exact absurd (he.trans h0'.symm) (this i j (by omega) hj hij)
  have hs : hasI (L.take (j + 1)) (c : Int) = (hasI (L.take j) (c : Int) || decide (c = c0)) := by
    rw [Bool.eq_iff_iff, Bool.or_eq_true, hasI_iff, hasI_iff, take_snoc hj, List.mem_append, h0]
    simp only [List.mem_singleton, decide_eq_true_eq]
    constructor
    · rintro (h | h)
      · exact .inl h
      · exact .inr (by omega)
    · rintro (h | h)
      · exact .inl h
      · exact .inr (by omega)
  unfold inL
  rw [hs]
  by_cases h : c = c0
  · subst h; rw [hn]; simp
  · simp [h]
def rowS (F : Nat → Int) (s : Int) (L : List Int) (j : Nat) : List Int := row6 fun c => F c + s * inL (L.take j) c
@[simp] theorem rowS_len (F : Nat → Int) (s : Int) (L : List Int) (j : Nat) : (rowS F s L j).length = 6 := by simp [rowS]
theorem rowS_zero (F : Nat → Int) (s : Int) (L : List Int) : rowS F s L 0 = row6 F := row6_congr fun c _ => by rw [List.take_zero, inL_nil]; omega
theorem rowS_full (F : Nat → Int) (s : Int) (L : List Int) : rowS F s L L.length = row6 fun c => F c + s * inL L c := row6_congr fun c _ => by rw [List.take_length]
theorem rowS_step {F : Nat → Int} {s : Int} {L : List Int} {j c0 : Nat} (hj : j < L.length) (hnd : L.Nodup) (h0 : L[j]! = (c0 : Int)) (hc0 : c0 < 6) : (rowS F s L j).set c0 ((rowS F s L j)[c0]! + s) = rowS F s L (j + 1) := by
  unfold rowS
  rw [row6_at hc0, row6_set]
  refine row6_congr fun c hc => ?_
  rw [inL_step hj hnd h0 c]
  by_cases h : c = c0
  · subst h; rw [if_pos rfl, if_pos rfl, Int.mul_add]; omega
  · rw [if_neg h, if_neg h, Int.add_zero]
theorem rowS_bound {F : Nat → Int} {s : Int} {L : List Int} {j c : Nat} (hc : c < 6) (hs : s = 1 ∨ s = -1) (hF : -1000 ≤ F c ∧ F c ≤ 1000) : -1001 ≤ (rowS F s L j)[c]! ∧ (rowS F s L j)[c]! ≤ 1001 := by
  unfold rowS
  rw [row6_at hc]
  have := inL_bound (L.take j) c
  rcases hs with rfl | rfl <;> omega
theorem mem_nodup (x : Nat) : (mem x).Nodup := (Go.KD.mem_sorted x).imp fun h => by omega
theorem inL_mem {K c : Nat} (hc : c < 6) : inL (mem K) c = if K.testBit c then 1 else 0 := by
  have : hasI (mem K) (c : Int) = K.testBit c := by
    rw [Bool.eq_iff_iff, hasI_iff, in_mem]
    constructor
    · rintro ⟨i, _, hi, he⟩
      have : c = i := by omega
      rw [this]; exact hi
    · intro h; exact ⟨c, by omega, h, rfl⟩
  unfold inL
  rw [this]
/-- Counts over a list, by a table of sets. -/
def cntL (g : Nat → Nat) (L : List Int) (c : Nat) : Int := (L.countP fun x => (g x.toNat).testBit c : Nat)
theorem cntL_bound (g : Nat → Nat) (L : List Int) (c : Nat) : 0 ≤ cntL g L c ∧ cntL g L c ≤ L.length := by
  unfold cntL
  have : L.countP (fun x => (g x.toNat).testBit c) ≤ L.length := List.countP_le_length
  omega
theorem cntL_step {g : Nat → Nat} {L : List Int} {i x K : Nat} (hi : i < L.length) (hx : L[i]! = (x : Int)) (hK : g x = K) {c : Nat} (hc : c < 6) : cntL g (L.take (i + 1)) c = cntL g (L.take i) c + inL (mem K) c := by
  unfold cntL
  rw [take_snoc hi, List.countP_append, List.countP_singleton, hx, Int.toNat_natCast, hK, inL_mem hc]
  split <;> simp
def keyG (m : Mz) (x : Nat) : Nat := m.keys[x]!.toNat
def doorG (m : Mz) (k : Nat) : Nat := m.doors[k]!.2.2.toNat
theorem leftL_row (m : Mz) (N : Nat) (L : List Int) : leftL m N L = row6 fun c => cntL (keyG m) (mem N) c - cntL (doorG m) L c := rfl
end Go.KD
