/- A filling laid: plain words; 'clear' of a row of numbers. No program is named here. -/
import Derived.Test.YtmilpahggceemaaKdSetW
import Derived.Test.YtmilpahggceemaaKdSwap
set_option linter.unusedVariables false
set_option linter.unusedSimpArgs false
namespace Go.KD
open Go.RowKit
theorem own_intK {w : World} {lo g n cap : Nat} {e : TypeId} {L : List Int} (h : w.ownsRow lo e 1 (.slice (some ⟨g, 0, none⟩) n cap) n (ints L)) (c : Nat) (hc : c < n) (hl : L.length = n) : w.cell? ⟨g, c, none⟩ = some (.int .i64 L[c]!) := by
  rw [h.cellAt c (by omega), ints, List.getElem?_map, List.getElem?_eq_getElem (by omega), getElem!_pos L c (by omega)]
  rfl
theorem zero_ints (n : Nat) : (Builtin.zeroCells (Value.int .i64 0).cells n).toList = ints (List.replicate n 0) := by
  show (Builtin.zeroCells #[.int .i64 0] n).toList = _
  simp only [Builtin.zeroCells, ints]
  apply List.ext_getElem
  · simp
  · intro i h1 h2; simp [Nat.mod_one]
theorem run_clear_ints {P : Program} (w : World) (t ty e eb : TypeId) (i : TypeInfo) (ht : P.underlying t = some (.slice e)) (hi : P.info? e = some i) (hz : i.zero = some (.int .i64 0)) (base g n cap : Nat) (L : List Int) (hn : 0 < n)
    (hown : w.ownsRow base eb 1 (.slice (some ⟨g, 0, none⟩) n cap) n (ints L)) :
    ∃ w', (Builtin.clear_ #[t] ty #[.slice (some ⟨g, 0, none⟩) n cap]).run P w = .ok (.tuple #[]) w' ∧ w'.ownsRow base eb 1 (.slice (some ⟨g, 0, none⟩) n cap) n (ints (List.replicate n 0)) ∧ w.grownBy w' (some g) := by
  obtain ⟨hl, h⟩ := hown
  rcases h with ⟨hv, h0⟩ | ⟨g', cap', cur, hv, hb, hh, hnc, hcm, hcs, htk⟩
  · omega
  cases hv
  have hzl : (ints (List.replicate n 0)).length = n := by simp
  have hst := run_storeCells_at P g 0 eb (ints (List.replicate n 0)) 0 cur w hh (by simp; omega) (fun u hu => by simp only [ints, List.mem_map] at hu; obtain ⟨x, _, rfl⟩ := hu; rfl)
  obtain ⟨k, rfl⟩ : ∃ k, n = k + 1 := ⟨n - 1, by omega⟩
  refine ⟨w.setRow g (ints (List.replicate (k + 1) 0) ++ cur.toList.drop (k + 1)).toArray, ?_, ⟨by simp, .inr ⟨g, cap, (ints (List.replicate (k + 1) 0) ++ cur.toList.drop (k + 1)).toArray, rfl, hb, setRow_heap w g cur _ eb _ hh, hnc, hcm, ?_, ?_⟩⟩, ⟨rfl, rfl, rfl, by simp, fun j _ hk => setRow_other w g j _ (fun e => hk (by simp [e]))⟩⟩
  · simp only [Nat.add_zero, List.take_zero, List.nil_append, hzl, Nat.zero_add] at hst
    simp [Builtin.clear_, run_underlying ht, zeroValue, typeInfo, hi, hz, zero_ints, hst]
  · simp; omega
  · simp [List.take_append, ints]
/-! Fillings -/
def layS (l : List Int) (x c : Int) : List Int := l.set x.toNat ((((l[x.toNat]!).toNat ||| 2 ^ c.toNat) : Nat) : Int)
def layK (n : Nat) (cs f : List Int) : Nat → List Int
  | 0 => List.replicate n 0
  | j + 1 => layS (layK n cs f j) f[j]! cs[j]!
@[simp] theorem layK_len (n : Nat) (cs f : List Int) : ∀ j, (layK n cs f j).length = n
  | 0 => by simp [layK]
  | j + 1 => by simp [layK, layS, layK_len n cs f j]
theorem layK_bound (n : Nat) (cs f : List Int) (hc : ∀ j, j < f.length → 0 ≤ cs[j]! ∧ cs[j]! < 6) : ∀ j, j ≤ f.length → ∀ x, x < n → 0 ≤ (layK n cs f j)[x]! ∧ (layK n cs f j)[x]! < 64
  | 0, _, x, hx => by
    unfold layK
    rw [getElem!_pos _ x (by simpa using hx)]; simp
  | j + 1, hj, x, hx => by
    have ih := layK_bound n cs f hc j (by omega)
    have hcj := hc j (by omega)
    show 0 ≤ (layS (layK n cs f j) f[j]! cs[j]!)[x]! ∧ (layS (layK n cs f j) f[j]! cs[j]!)[x]! < 64
    unfold layS
    rw [getElem!_pos _ x (by simpa using hx), List.getElem_set]
    split
    · rename_i he
      rw [he]
      have h1 := ih x hx
      have h2 : ((layK n cs f j)[x]!).toNat ||| 2 ^ (cs[j]!).toNat < 2 ^ 6 := Nat.or_lt_two_pow (by omega) (Nat.pow_lt_pow_right (by omega) (by omega))
      omega
    · have h1 := ih x hx
      rwa [getElem!_pos _ x (by simpa using hx)] at h1
def layM (m : Mz) (cs f : List Int) : Mz := ⟨m.size, m.doors, layK m.keys.length cs f f.length⟩
theorem layM_ok {m : Mz} (ok : MzOk m) {cs f : List Int} (hc : ∀ j, j < f.length → 0 ≤ cs[j]! ∧ cs[j]! < 6) : MzOk (layM m cs f) := by
  refine ⟨ok.s1, ok.s2, ok.nd, by simp [layM, ok.nk], ok.dr, fun k hk => ?_⟩
  simp only [layM, layK_len] at hk
  have := layK_bound m.keys.length cs f hc f.length (Nat.le_refl _) k hk
  show setB ((layK m.keys.length cs f f.length)[k]!) = true
  rw [setB_true]; omega
/-- The colours of a set, as a filling wants them. -/
theorem mem_six {x : Nat} (hx : x < 64) {j : Nat} (hj : j < (mem x).length) : 0 ≤ (mem x)[j]! ∧ (mem x)[j]! < 6 := by
  obtain ⟨i, h1, h2⟩ := mem_at hj rfl
  have := bit_lt (n := 6) hx h2
  omega
/-! The rounds in which nodes are entered -/
def entS (i : Nat) (out : List Int) (x : Int) : List Int := if out[x.toNat]! = 0 then out.set x.toNat ((i : Int) + 1) else out
def entJ (i : Nat) (out l : List Int) (j : Nat) : List Int := (l.take j).foldl (entS i) out
def entK (m : Mz) (s : Nat) : Nat → List Int
  | 0 => List.replicate m.keys.length 0
  | i + 1 => entJ i (entK m s i) (mem (reachN m 0 (gK m s i))) (mem (reachN m 0 (gK m s i))).length
@[simp] theorem entS_len (i : Nat) (out : List Int) (x : Int) : (entS i out x).length = out.length := by unfold entS; split <;> simp
theorem entJ_step {i : Nat} {out l : List Int} {j : Nat} (h : j < l.length) : entJ i out l (j + 1) = entS i (entJ i out l j) l[j]! := by
  unfold entJ
  rw [take_snoc h, List.foldl_append]
  rfl
@[simp] theorem entJ_len (i : Nat) (out l : List Int) : ∀ j, j ≤ l.length → (entJ i out l j).length = out.length
  | 0, _ => by simp [entJ]
  | j + 1, h => by rw [entJ_step (by omega), entS_len, entJ_len i out l j (by omega)]
theorem entK_len (m : Mz) (s : Nat) : ∀ i, (entK m s i).length = m.keys.length
  | 0 => by simp [entK]
  | i + 1 => by unfold entK; rw [entJ_len _ _ _ _ (Nat.le_refl _), entK_len m s i]
def fixN (m : Mz) (s : Nat) : Nat := (List.range 64).findIdx fun k => decide (gainN m (gK m s k) = gK m s k)
def entF (m : Mz) (s : Nat) : List Int := entK m s (fixN m s + 1)
theorem fixN_eq {m : Mz} {s k : Nat} (hk : k < 64) (h : gainN m (gK m s k) = gK m s k) (h0 : ∀ j, j < k → gainN m (gK m s j) ≠ gK m s j) : fixN m s = k := by
  unfold fixN
  rw [List.findIdx_eq (by simpa using hk)]
  refine ⟨by simpa using h, fun j hj => ?_⟩
  simpa using h0 j hj
theorem entF_eq {m : Mz} {s k : Nat} (hk : k < 64) (h : gainN m (gK m s k) = gK m s k) (h0 : ∀ j, j < k → gainN m (gK m s j) ≠ gK m s j) : entF m s = entK m s (k + 1) := by unfold entF; rw [fixN_eq hk h h0]
end Go.KD
