/- The states of a maze as a graph over numbers, the way to the goal, key walks and hints. Plain words, no program. -/
import Derived.Test.YtldogbahbjompaaKdDist
set_option linter.unusedVariables false
set_option linter.unusedSimpArgs false
namespace Go.KD
open Go.RowKit
/-- The state behind a step to y with the colours s. -/
def stM (m : Mz) (s y : Nat) : Nat := y * 64 + (s ||| m.keys[y]!.toNat)
def stpN (m : Mz) (x s k : Nat) : List Nat := (List.range k).filter fun y => (stN m x s).testBit y
def stpL (m : Mz) (x s k : Nat) : List Nat := (stpN m x s k).map (stM m s)
def nxM (m : Mz) (i : Nat) : List Nat := if ((i / 64 : Nat) : Int) < m.size then stpL m (i / 64) (i % 64) 12 else []
/-- The state with the keys of its node. -/
def cloS (m : Mz) (i : Nat) : Nat := i / 64 * 64 + (i % 64 ||| m.keys[i / 64]!.toNat)
def nxR (m : Mz) (i : Nat) : List Nat := nxM m (cloS m i)
def goalT (m : Mz) (i : Nat) : Bool := decide (((i / 64 : Nat) : Int) = m.size - 1)
theorem stN_bits {m : Mz} (ok : MzOk m) {x s i : Nat} (h : (stN m x s).testBit i = true) : (i : Int) < m.size ∧ i < 12 := by
  rw [stN_bit ok] at h
  have := opn_range ok h
  have := ok.s2
  omega
theorem stpN_mem {m : Mz} {x s k y : Nat} : y ∈ stpN m x s k ↔ y < k ∧ (stN m x s).testBit y = true := by
  unfold stpN
  rw [List.mem_filter, List.mem_range]
theorem stpN_end {m : Mz} (ok : MzOk m) (x s : Nat) {k : Nat} (h : m.size ≤ (k : Int)) : ∀ j, stpN m x s (k + j) = stpN m x s k
  | 0 => rfl
  | j + 1 => by
    rw [← Nat.add_assoc]
    unfold stpN
    rw [List.range_succ, List.filter_append]
    have ih := stpN_end ok x s h j
    unfold stpN at ih
    rw [ih]
    have : (stN m x s).testBit (k + j) = false := by
      cases h1 : (stN m x s).testBit (k + j)
      · rfl
      · have := (stN_bits ok h1).1; omega
    simp [this]
theorem stpN_size {m : Mz} (ok : MzOk m) (x s : Nat) {k : Nat} (h : m.size ≤ (k : Int)) (hk : k ≤ 40) : (stpN m x s k).map (fun (y : Nat) => (y : Int)) = mem (stN m x s) := by
  have := stpN_end ok x s h (40 - k)
  rw [show k + (40 - k) = 40 by omega] at this
  rw [← this]; rfl
theorem stpL_12 {m : Mz} (ok : MzOk m) (x s : Nat) {k : Nat} (h : m.size ≤ (k : Int)) (hk : k ≤ 40) : stpL m x s k = stpL m x s 12 := by
  have hs := ok.s2
  unfold stpL
  have e1 := stpN_end ok x s h (40 - k)
  have e2 := stpN_end ok x s (k := 12) (by omega) 28
  rw [show k + (40 - k) = 40 by omega] at e1
  rw [← e1, ← e2]
theorem stM_lt {m : Mz} (ok : MzOk m) {s y : Nat} (hs : s < 64) : stM m s y / 64 = y ∧ stM m s y % 64 = s ||| m.keys[y]!.toNat ∧ s ||| m.keys[y]!.toNat < 64 := by
  have h := Nat.or_lt_two_pow (n := 6) hs (keys_lt ok y)
  have h : s ||| m.keys[y]!.toNat < 64 := h
  unfold stM
  omega
theorem nxM_mem {m : Mz} {i j : Nat} : j ∈ nxM m i ↔ ((i / 64 : Nat) : Int) < m.size ∧ ∃ y, y < 12 ∧ (stN m (i / 64 : Nat) (i % 64)).testBit y = true ∧ j = stM m (i % 64) y := by
  unfold nxM
  split
  · rename_i h
    unfold stpL
    rw [List.mem_map]
    constructor
    · rintro ⟨y, hy, rfl⟩
      rw [stpN_mem] at hy
      exact ⟨h, y, hy.1, hy.2, rfl⟩
    · rintro ⟨-, y, h1, h2, rfl⟩
      exact ⟨y, stpN_mem.2 ⟨h1, h2⟩, rfl⟩
  · rename_i h
    constructor
    · intro h'; cases h'
    · rintro ⟨h', _⟩; exact absurd h' h
theorem nxM_lt {m : Mz} (ok : MzOk m) {i j : Nat} (h : j ∈ nxM m i) : ((j / 64 : Nat) : Int) < m.size ∧ j < 768 := by
  obtain ⟨-, y, hy, hb, rfl⟩ := nxM_mem.1 h
  obtain ⟨e1, e2, e3⟩ := stM_lt ok (s := i % 64) (y := y) (Nat.mod_lt _ (by omega))
  have := stN_bits ok hb
  have := Nat.div_add_mod (stM m (i % 64) y) 64
  omega
theorem nxM_b {m : Mz} (ok : MzOk m) : bNx (nxM m) := fun i _ j hj => (nxM_lt ok hj).2
theorem cloS_fix {m : Mz} (ok : MzOk m) (i : Nat) : cloS m i / 64 = i / 64 ∧ cloS m i % 64 = (i % 64 ||| m.keys[i / 64]!.toNat) := by
  have h := Nat.or_lt_two_pow (n := 6) (show i % 64 < 64 from Nat.mod_lt _ (by omega)) (keys_lt ok (i / 64))
  have h : i % 64 ||| m.keys[i / 64]!.toNat < 64 := h
  unfold cloS
  omega
theorem or_idem (a b : Nat) : (a ||| b) ||| b = a ||| b := by rw [Nat.or_assoc, Nat.or_self]
/-- A step leads to a state that has the keys of its node. -/
theorem nxM_clo {m : Mz} (ok : MzOk m) {i j : Nat} (h : j ∈ nxM m i) : cloS m j = j := by
  obtain ⟨-, y, hy, hb, rfl⟩ := nxM_mem.1 h
  obtain ⟨e1, e2, e3⟩ := stM_lt ok (s := i % 64) (y := y) (Nat.mod_lt _ (by omega))
  unfold cloS
  rw [e1, e2, or_idem]; rfl
noncomputable def dM (m : Mz) : Nat → Int := dTo (nxM m) (goalT m)
noncomputable def dR (m : Mz) : Nat → Int := dTo (nxR m) (goalT m)
theorem dR_dM {m : Mz} (ok : MzOk m) {i : Nat} (h : cloS m i = i) : dR m i = dM m i := by
  refine (dTo_same (C := fun i => cloS m i = i) (fun i hi => ?_) (fun i hi j hj => ?_) h).symm
  · unfold nxR; rw [hi]
  · exact nxM_clo ok hj
theorem dM_ok (m : Mz) : DOk (nxM m) (goalT m) (dM m) := dTo_ok _ _
theorem dR_ok (m : Mz) : DOk (nxR m) (goalT m) (dR m) := dTo_ok _ _
theorem nxR_lt {m : Mz} (ok : MzOk m) {i j : Nat} (h : j ∈ nxR m i) : ((j / 64 : Nat) : Int) < m.size ∧ j < 768 := nxM_lt ok h
/-! ### The way to the goal -/
/-- The first step that leads nearer. -/
def nearW (nx : Nat → List Nat) (d : Nat → Int) (i : Nat) : Nat := ((nx i).find? fun j => decide (d j = d i - 1)).getD i
def posW (nx : Nat → List Nat) (d : Nat → Int) (i : Nat) : Nat → Nat
  | 0 => i
  | k + 1 => nearW nx d (posW nx d i k)
theorem nearW_ok {nx : Nat → List Nat} {T : Nat → Bool} {d : Nat → Int} (hd : DOk nx T d) {i : Nat} (h : 0 < d i) : nearW nx d i ∈ nx i ∧ d (nearW nx d i) = d i - 1 := by
  obtain ⟨j, hj, he⟩ := hd.back i h
  unfold nearW
  cases hf : (nx i).find? fun j => decide (d j = d i - 1) with
  | none => have := List.find?_eq_none.1 hf j hj; simp [he] at this
  | some z =>
    have h1 := List.find?_some hf
    exact ⟨List.mem_of_find?_eq_some hf, by simpa using h1⟩
theorem nearW_at {nx : Nat → List Nat} {d : Nat → Int} {i k : Nat} (hk : k < (nx i).length) (h1 : d (nx i)[k]! = d i - 1) (h2 : ∀ q, q < k → ¬ d (nx i)[q]! = d i - 1) : nearW nx d i = (nx i)[k]! := by
  unfold nearW
  have : (nx i).find? (fun j => decide (d j = d i - 1)) = some (nx i)[k]! := by
    rw [List.find?_eq_some_iff_getElem]
    refine ⟨by simpa using h1, k, hk, (getElem!_pos (nx i) k hk).symm, fun q hq => ?_⟩
    have := h2 q hq
    rw [getElem!_pos (nx i) q (by omega)] at this
    simpa using this
  rw [this]; rfl
theorem posW_d {nx : Nat → List Nat} {T : Nat → Bool} {d : Nat → Int} (hd : DOk nx T d) (i : Nat) : ∀ k : Nat, (k : Int) ≤ d i → d (posW nx d i k) = d i - k
  | 0, _ => by simp [posW]
  | k + 1, hk => by
    have ih := posW_d hd i k (by omega)
    have := (nearW_ok hd (i := posW nx d i k) (by omega)).2
    rw [posW, this, ih]; omega
theorem posW_mem {nx : Nat → List Nat} {T : Nat → Bool} {d : Nat → Int} (hd : DOk nx T d) {i k : Nat} (hk : (k : Int) < d i) : posW nx d i (k + 1) ∈ nx (posW nx d i k) := by
  have := posW_d hd i k (by omega)
  exact (nearW_ok hd (i := posW nx d i k) (by omega)).1
/-! ### Key walks -/
/-- Can the walk's place k be entered? -/
def tkB (m : Mz) (W : List Int) (k : Nat) : Bool := inB W[k]! 0 (m.size - 1) && (if k = 0 then W[0]! == 0 else opnB m W[k - 1]! W[k]! (keysL m (W.take k)))
def tkAll (m : Mz) (W : List Int) : Bool := (List.range W.length).all (tkB m W) && !W.isEmpty
def tkS (m : Mz) (W : List Int) (k : Nat) : List Int := (List.range k).map fun i => ((keysL m (W.take (i + 1)) : Nat) : Int)
theorem tkS_len (m : Mz) (W : List Int) (k : Nat) : (tkS m W k).length = k := by simp [tkS]
theorem tkS_at (m : Mz) (W : List Int) {k i : Nat} (h : i < k) : (tkS m W k)[i]! = ((keysL m (W.take (i + 1)) : Nat) : Int) := by
  rw [getElem!_pos _ i (by rw [tkS_len]; exact h)]; simp [tkS]
theorem tkS_snoc (m : Mz) (W : List Int) (k : Nat) : tkS m W (k + 1) = tkS m W k ++ [((keysL m (W.take (k + 1)) : Nat) : Int)] := by simp [tkS, List.range_succ]
theorem keysL_next (m : Mz) (W : List Int) {k : Nat} (h : k < W.length) : keysL m (W.take (k + 1)) = (keysL m (W.take k) ||| m.keys[(W[k]!).toNat]!.toNat) := by
  rw [take_snoc h, keysL_snoc]
theorem tkAll_no {m : Mz} {W : List Int} {k : Nat} (hk : k < W.length) (h : tkB m W k = false) : tkAll m W = false := by
  unfold tkAll
  have : (List.range W.length).all (tkB m W) = false := by
    rw [List.all_eq_false]
    exact ⟨k, List.mem_range.2 hk, by rw [h]; simp⟩
  rw [this]; rfl
theorem tkAll_yes {m : Mz} {W : List Int} (h0 : 0 < W.length) (h : ∀ k, k < W.length → tkB m W k = true) : tkAll m W = true := by
  unfold tkAll
  have : (List.range W.length).all (tkB m W) = true := by
    rw [List.all_eq_true]
    exact fun k hk => h k (List.mem_range.1 hk)
  have h2 : (!W.isEmpty) = true := by
    cases W with
    | nil => simp at h0
    | cons => simp
  rw [this, h2]; decide
theorem tkAll_nil {m : Mz} {W : List Int} (h0 : W.length = 0) : tkAll m W = false := by
  cases W with
  | nil => rfl
  | cons => simp at h0
theorem tkAll_at {m : Mz} {W : List Int} (h : tkAll m W = true) : 0 < W.length ∧ ∀ k, k < W.length → tkB m W k = true := by
  unfold tkAll at h
  rw [Bool.and_eq_true, List.all_eq_true] at h
  refine ⟨?_, fun k hk => h.1 k (List.mem_range.2 hk)⟩
  cases W with
  | nil => simp at h
  | cons => simp
/-- The end of a walk as a state. -/
def endW (m : Mz) (W : List Int) : Nat := (W[W.length - 1]!).toNat * 64 + keysL m W
theorem endW_ok {m : Mz} (ok : MzOk m) {W : List Int} (h : tkAll m W = true) : ∃ x s : Nat, W[W.length - 1]! = (x : Int) ∧ keysL m W = s ∧ (x : Int) < m.size ∧ x < 12 ∧ s < 64 ∧ endW m W = x * 64 + s ∧ cloS m (x * 64 + s) = x * 64 + s := by
  obtain ⟨h0, ha⟩ := tkAll_at h
  have hl := ha (W.length - 1) (by omega)
  unfold tkB at hl
  rw [Bool.and_eq_true, inB_true] at hl
  obtain ⟨x, hx⟩ := Int.eq_ofNat_of_zero_le hl.1.1
  have hs := keysL_lt ok W
  have hs2 := ok.s2
  refine ⟨x, keysL m W, hx, rfl, by omega, by omega, hs, by unfold endW; rw [hx]; simp, ?_⟩
  have e1 : (x * 64 + keysL m W) / 64 = x := by omega
  have e2 : (x * 64 + keysL m W) % 64 = keysL m W := by omega
  unfold cloS
  rw [e1, e2]
  have hn := keysL_next m W (k := W.length - 1) (by omega)
  rw [show W.length - 1 + 1 = W.length by omega, List.take_length, hx, Int.toNat_natCast] at hn
  rw [hn, or_idem]
/-! ### Hints -/
noncomputable def pHintAt (m : Mz) (W : List Int) : Int × Bool :=
  if mazeB m && tkAll m W && decide (0 < dM m (endW m W)) then (((posW (nxM m) (dM m) (endW m W) 1 / 64 : Nat) : Int), true) else (0, false)
noncomputable def pHintColours (m : Mz) (W : List Int) : Int × Bool :=
  if mazeB m && tkAll m W && decide (0 ≤ dM m (endW m W)) then (((andn (posW (nxM m) (dM m) (endW m W) (dM m (endW m W)).toNat % 64) (endW m W % 64) : Nat) : Int), true) else (0, false)
/-- The colours after k steps are those of the keys on the way. -/
theorem posW_keys {m : Mz} (ok : MzOk m) {i k : Nat} (hk : (k : Int) < dM m i) :
    ∃ y, posW (nxM m) (dM m) i (k + 1) = stM m (posW (nxM m) (dM m) i k % 64) y ∧ (y : Int) < m.size ∧ y < 12 ∧ posW (nxM m) (dM m) i (k + 1) / 64 = y ∧ posW (nxM m) (dM m) i (k + 1) % 64 = (posW (nxM m) (dM m) i k % 64 ||| m.keys[y]!.toNat) := by
  have h := posW_mem (dM_ok m) hk
  obtain ⟨-, y, hy, hb, he⟩ := nxM_mem.1 h
  obtain ⟨e1, e2, e3⟩ := stM_lt ok (s := posW (nxM m) (dM m) i k % 64) (y := y) (Nat.mod_lt _ (by omega))
  refine ⟨y, he, (stN_bits ok hb).1, hy, by rw [he]; exact e1, by rw [he]; exact e2⟩
/-- In the reference's graph the way is the same. -/
theorem near_same {m : Mz} (ok : MzOk m) {p : Nat} (h : cloS m p = p) : nearW (nxR m) (dR m) p = nearW (nxM m) (dM m) p := by
  have e : nxR m p = nxM m p := by unfold nxR; rw [h]
  have hd : dR m p = dM m p := dR_dM ok h
  have ef : ∀ L : List Nat, (∀ j ∈ L, cloS m j = j) → ∀ c : Int, L.find? (fun j => decide (dR m j = c)) = L.find? (fun j => decide (dM m j = c)) := by
    intro L
    induction L with
    | nil => intro _ _; simp
    | cons a L ih =>
      intro hL c
      rw [List.find?_cons, List.find?_cons, dR_dM ok (hL a (by simp)), ih (fun j hj => hL j (by simp [hj])) c]
  unfold nearW
  rw [e, hd, ef _ (fun j hj => nxM_clo ok hj)]
theorem posW_same {m : Mz} (ok : MzOk m) {i : Nat} (h : cloS m i = i) (k : Nat) : (k : Int) ≤ dM m i → posW (nxR m) (dR m) i k = posW (nxM m) (dM m) i k ∧ cloS m (posW (nxM m) (dM m) i k) = posW (nxM m) (dM m) i k := by
  induction k with
  | zero =>
    intro _
    rw [posW, posW]
    exact ⟨Eq.refl i, h⟩
  | succ k ih =>
    intro hk
    obtain ⟨h1, h2⟩ := ih (by omega)
    have hm := posW_mem (dM_ok m) (i := i) (k := k) (by omega)
    refine ⟨?_, nxM_clo ok hm⟩
    rw [posW, posW, h1]
    exact near_same ok h2
end Go.KD
