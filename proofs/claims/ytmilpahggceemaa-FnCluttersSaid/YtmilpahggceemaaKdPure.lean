/- Plain words: sets, orders of rows, valid mazes and works. No program is named here. -/
import Derived.Test.YtmilpahggceemaaKdBase
namespace Go.KD
def inB (x a b : Int) : Bool := decide (a ≤ x) && decide (x ≤ b)
def setB (s : Int) : Bool := decide (0 ≤ s) && decide (s ≤ 63)
theorem inB_true {x a b : Int} : inB x a b = true ↔ a ≤ x ∧ x ≤ b := by simp [inB]
theorem inB_false {x a b : Int} : inB x a b = false ↔ ¬ (a ≤ x ∧ x ≤ b) := by rw [← inB_true]; simp
theorem setB_true {x : Int} : setB x = true ↔ 0 ≤ x ∧ x ≤ 63 := by simp [setB]
theorem setB_inB (x : Int) : setB x = inB x 0 63 := rfl
def cmpI (a b : Int) : Int := if a < b then -1 else if b < a then 1 else 0
def orI : List Int → Int
  | [] => 0
  | x :: l => if x ≠ 0 then x else orI l
def lt3 (d e : D3) : Bool := if d.1 ≠ e.1 then decide (d.1 < e.1) else if d.2.1 ≠ e.2.1 then decide (d.2.1 < e.2.1) else decide (d.2.2 < e.2.2)
def lt4 (d e : D4) : Bool := if d.1 ≠ e.1 then decide (d.1 < e.1) else if d.2.1 ≠ e.2.1 then decide (d.2.1 < e.2.1) else if d.2.2.1 ≠ e.2.2.1 then decide (d.2.2.1 < e.2.2.1) else decide (d.2.2.2 < e.2.2.2)
def cmp3 (d e : D3) : Int := orI [cmpI d.1 e.1, cmpI d.2.1 e.2.1, cmpI d.2.2 e.2.2]
def cmp4 (d e : D4) : Int := orI [cmpI d.1 e.1, cmpI d.2.1 e.2.1, cmpI d.2.2.1 e.2.2.1, cmpI d.2.2.2 e.2.2.2]
theorem cmpI_zero {a b : Int} : cmpI a b = 0 ↔ a = b := by unfold cmpI; split <;> (try split) <;> omega
theorem cmpI_neg {a b : Int} : cmpI a b < 0 ↔ a < b := by unfold cmpI; split <;> (try split) <;> omega
theorem cmp3_neg (d e : D3) : decide (cmp3 d e < 0) = lt3 d e := by
  obtain ⟨a, b, c⟩ := d; obtain ⟨x, y, z⟩ := e
  simp only [cmp3, orI, lt3]
  by_cases h1 : a = x
  · by_cases h2 : b = y
    · by_cases h3 : c = z
      · simp [h1, h2, h3, cmpI_zero.2]
      · simp [h1, h2, h3, cmpI_zero, cmpI_neg]
    · simp [h1, h2, cmpI_zero, cmpI_neg]
  · simp [h1, cmpI_zero, cmpI_neg]
theorem cmp4_neg (d e : D4) : decide (cmp4 d e < 0) = lt4 d e := by
  obtain ⟨a, b, c, u⟩ := d; obtain ⟨x, y, z, v⟩ := e
  simp only [cmp4, orI, lt4]
  by_cases h1 : a = x
  · by_cases h2 : b = y
    · by_cases h3 : c = z
      · by_cases h4 : u = v
        · simp [h1, h2, h3, h4, cmpI_zero.2]
        · simp [h1, h2, h3, h4, cmpI_zero, cmpI_neg]
      · simp [h1, h2, h3, cmpI_zero, cmpI_neg]
    · simp [h1, h2, cmpI_zero, cmpI_neg]
  · simp [h1, cmpI_zero, cmpI_neg]
/-- A gate at its place. -/
def gateB (size : Int) (gs : List D4) (k : Nat) : Bool :=
  inB gs[k]!.1 0 (size - 1) && inB gs[k]!.2.1 (gs[k]!.1 + 1) (size - 1) && setB gs[k]!.2.2.1 && inB gs[k]!.2.2.2 0 1 && (k == 0 || lt4 gs[k - 1]! gs[k]!)
def doorB (size : Int) (ds : List D3) (k : Nat) : Bool :=
  inB ds[k]!.1 0 (size - 1) && inB ds[k]!.2.1 (ds[k]!.1 + 1) (size - 1) && setB ds[k]!.2.2 && (k == 0 || lt3 ds[k - 1]! ds[k]!)
structure WkOk (m : Wk) : Prop where
  s1 : 1 ≤ m.size
  s2 : m.size ≤ 12
  ng : m.gates.length ≤ 30
  np : (m.pulls.length : Int) = m.size
  gt : ∀ k, k < m.gates.length → gateB m.size m.gates k = true
  pl : ∀ k, k < m.pulls.length → setB m.pulls[k]! = true
structure MzOk (m : Mz) : Prop where
  s1 : 1 ≤ m.size
  s2 : m.size ≤ 12
  nd : m.doors.length ≤ 30
  nk : (m.keys.length : Int) = m.size
  dr : ∀ k, k < m.doors.length → doorB m.size m.doors k = true
  ks : ∀ k, k < m.keys.length → setB m.keys[k]! = true
open Classical in
noncomputable def worksB (m : Wk) : Bool := decide (WkOk m)
open Classical in
noncomputable def mazeB (m : Mz) : Bool := decide (MzOk m)
theorem worksB_true {m : Wk} : worksB m = true ↔ WkOk m := by simp [worksB]
theorem mazeB_true {m : Mz} : mazeB m = true ↔ MzOk m := by simp [mazeB]
theorem worksB_false {m : Wk} : worksB m = false ↔ ¬ WkOk m := by simp [worksB]
theorem mazeB_false {m : Mz} : mazeB m = false ↔ ¬ MzOk m := by simp [mazeB]
def anyP (p : Int → Bool) (l : List Int) : Bool := l.any p
def idxP (p : Int → Bool) (l : List Int) : Int := match l.findIdx? p with | some k => (k : Int) | none => -1
theorem idxP_none {p : Int → Bool} {l : List Int} (h : ∀ j, j < l.length → p l[j]! = false) : idxP p l = -1 := by
  unfold idxP
  rw [List.findIdx?_eq_none_iff.2]
  intro x hx
  obtain ⟨j, hj, rfl⟩ := List.mem_iff_getElem.1 hx
  have := h j hj
  rwa [getElem!_pos l j hj] at this
theorem idxP_at {p : Int → Bool} {l : List Int} {k : Nat} (hk : k < l.length) (h : ∀ j, j < k → p l[j]! = false) (h1 : p l[k]! = true) : idxP p l = k := by
  unfold idxP
  rw [List.findIdx?_eq_some_iff_getElem.2 ⟨hk, by rwa [getElem!_pos l k hk] at h1, fun j hj => by have := h j hj; rw [getElem!_pos l j (by omega)] at this; simp [this]⟩]
theorem anyP_idx (p : Int → Bool) (l : List Int) : anyP p l = decide (0 ≤ idxP p l) := by
  unfold anyP idxP
  cases h : l.findIdx? p with
  | none =>
    rw [List.findIdx?_eq_none_iff] at h
    simp; intro x hx; simp [h x hx]
  | some k =>
    obtain ⟨hk, h1, _⟩ := List.findIdx?_eq_some_iff_getElem.1 h
    simp; exact ⟨l[k], List.getElem_mem hk, h1⟩
theorem worksB_no {m : Wk} (h : ¬ WkOk m) : worksB m = false := worksB_false.2 h
theorem mazeB_no {m : Mz} (h : ¬ MzOk m) : mazeB m = false := mazeB_false.2 h
theorem gateB_eq {size : Int} {gs : List D4} {k : Nat} {a b c d : Int} (h : gs[k]! = (a, b, c, d)) : gateB size gs k = (inB a 0 (size - 1) && inB b (a + 1) (size - 1) && setB c && inB d 0 1 && (k == 0 || lt4 gs[k - 1]! (a, b, c, d))) := by
  unfold gateB; rw [h]
theorem doorB_eq {size : Int} {ds : List D3} {k : Nat} {a b c : Int} (h : ds[k]! = (a, b, c)) : doorB size ds k = (inB a 0 (size - 1) && inB b (a + 1) (size - 1) && setB c && (k == 0 || lt3 ds[k - 1]! (a, b, c))) := by
  unfold doorB; rw [h]
theorem gateB_impl {size : Int} {gs : List D4} {k : Nat} {a b c d : Int} (h : gs[k]! = (a, b, c, d)) : gateB size gs k = (inB b 1 (size - 1) && inB a 0 (b - 1) && setB c && inB d 0 1 && (k == 0 || !decide (0 ≤ cmp4 gs[k - 1]! (a, b, c, d)))) := by
  rw [gateB_eq h, ← cmp4_neg]
  have e : (inB a 0 (size - 1) && inB b (a + 1) (size - 1)) = (inB b 1 (size - 1) && inB a 0 (b - 1)) := by
    rw [Bool.eq_iff_iff]; simp only [Bool.and_eq_true, inB_true]; omega
  have e2 : ∀ t : Int, decide (t < 0) = !decide (0 ≤ t) := fun t => by rw [Bool.eq_iff_iff]; simp
  rw [e, e2]
theorem doorB_impl {size : Int} {ds : List D3} {k : Nat} {a b c : Int} (h : ds[k]! = (a, b, c)) : doorB size ds k = (!decide (a < 0) && !decide (b ≤ a) && !decide (size ≤ b) && setB c && (k == 0 || !decide (0 ≤ cmp3 ds[k - 1]! (a, b, c)))) := by
  rw [doorB_eq h, ← cmp3_neg]
  have e : (inB a 0 (size - 1) && inB b (a + 1) (size - 1)) = (!decide (a < 0) && !decide (b ≤ a) && !decide (size ≤ b)) := by
    rw [Bool.eq_iff_iff]; simp only [Bool.and_eq_true, inB_true, Bool.not_eq_true', decide_eq_false_iff_not]; omega
  have e2 : ∀ t : Int, decide (t < 0) = !decide (0 ≤ t) := fun t => by rw [Bool.eq_iff_iff]; simp
  rw [e, e2 (cmp3 ds[k - 1]! (a, b, c))]
end Go.KD
