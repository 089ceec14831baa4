/- Contracts of SwapFilling. -/
import Derived.Test.YtmilpahggceemaaKdFill
import Derived.Test.YtmilpahggceemaaKdChg
import Derived.RegionTactic
import Derived.ChangeAlike
set_option linter.unusedVariables false
set_option linter.unusedSimpArgs false
namespace Go.KD
open Go.RowKit
def swapL (f : List Int) (i k : Nat) : List Int := (f.set i f[k]!).set k f[i]!
def placeN (x : Nat) (a : Int) : Nat := (idxP (eqP a) (mem x)).toNat
noncomputable def pSwapFilling (m : Mz) (set : Int) (f : List Int) (a b : Int) : List Int × Bool :=
  if askB m set && fillB m set f && !(a == b) && hasI (mem set.toNat) a && hasI (mem set.toNat) b then (swapL f (placeN set.toNat a) (placeN set.toNat b), true) else ([], false)
@[simp] theorem swapL_len (f : List Int) (i k : Nat) : (swapL f i k).length = f.length := by simp [swapL]
theorem pSwapFilling_len (m : Mz) (set : Int) (f : List Int) (a b : Int) : (pSwapFilling m set f a b).1.length ≤ 1000000 := by
  unfold pSwapFilling; split
  · rename_i h
    simp only [Bool.and_eq_true, fillB, decide_eq_true_eq] at h
    have := popc_le set.toNat
    simp only [swapL_len]; omega
  · simp
theorem memK6 {x : Nat} (hx : x < 64) : memK x 6 = mem x := by
  rw [mem_eq]
  have h0 : x >>> 6 = 0 := by rw [Nat.shiftRight_eq_div_pow]; omega
  exact (memK_end h0 34).symm
theorem idx_has {l : List Int} {a : Int} (h : hasI l a = true) : ∃ i, i < l.length ∧ idxP (eqP a) l = (i : Int) ∧ l[i]! = a ∧ ∀ j, j < i → l[j]! ≠ a := by
  rw [hasI_iff] at h
  cases hf : l.findIdx? (eqP a) with
  | none =>
    rw [List.findIdx?_eq_none_iff] at hf
    have := hf a h
    simp [eqP] at this
  | some k =>
    obtain ⟨hk, h1, h2⟩ := List.findIdx?_eq_some_iff_getElem.1 hf
    refine ⟨k, hk, by unfold idxP; rw [hf], ?_, fun j hj => ?_⟩
    · rw [getElem!_pos l k hk]; simpa [eqP] using h1
    · rw [getElem!_pos l j (by omega)]; have := h2 j hj; simpa [eqP] using this
theorem idx_not {l : List Int} {a : Int} (h : hasI l a = false) : idxP (eqP a) l = -1 := by
  refine idxP_none fun j hj => ?_
  cases he : eqP a l[j]! with
  | false => rfl
  | true => rw [hasI_at hj (by simpa [eqP] using he)] at h; cases h
end Go.KD
namespace Go.Proofs.Ytmilpahggceemaa
open Go.RowKit Go.KD
attribute [local go_sem] later_cell later_frozen
set_option maxHeartbeats 1000000 in
theorem l1Own_c (a : Option Addr) (cap n : Nat) (l : List Int) (w : World) (hn : n = l.length) (hA : IC w a l) (hl : n ≤ 1048576) : Calls Try.prog 154 #[.slice a n cap] w fun e w' =>
    ∃ v, e = .returned v ∧ w'.ownsRow w.heap.size 3 1 v n (ints l) ∧ Below w.heap.size w w' := by
  obtain ⟨i0, hi, hz0, hz1, hz2⟩ := info_parts infoI
  have HN := Lib.hid hn; clear hn
  cases a with
  | none =>
    have h0 : l = [] := by
      cases l with
      | nil => rfl
      | cons x l => obtain ⟨b, off, h, _⟩ := hA 0 (by simp); cases h
    subst h0
    have h00 : n = 0 := HN.out
    subst h00
    go_enter Try.func154, Try.ntmps154
    go_wp2
    go_ret
    exact ⟨_, rfl, World.ownsRow_lit w #[] 0 (Nat.le_refl _) (by unfold maxLen; omega) rfl, (Below.refl _ _).alloc (Nat.le_refl _) _⟩
  | some ad =>
    have hnews : Hid (∀ j u, (ints l)[j]? = some u → w.cell? (ad.add j) = some u) := by
      intro j u hu
      have hj : j < l.length := by
        rcases Nat.lt_or_ge j l.length with h | h
        · exact h
        · rw [List.getElem?_eq_none (by simpa using h)] at hu; cases hu
      obtain ⟨b, off, hb, hbs, hc⟩ := hA j hj
      cases hb
      rw [add_at rfl, hc, ← hu, ints, List.getElem?_map, List.getElem?_eq_getElem hj, getElem!_pos l j hj]
      rfl
    have hlt : Hid (∀ j u, (ints l)[j]? = some u → ad.block < w.heap.size) := fun j u hu => World.block_lt_of_cell? w (ad.add j) (hnews.out j u hu) |> fun h => by unfold Addr.add at h; split at h <;> exact h
    go_enter Try.func154, Try.ntmps154
    go_wp2_with (at_builtin; refine wpList_append_own _ rfl _ _ 24 rfl w.heap.size 3 i0 (.int .i64 0) 1 8 Try.underlying24 hi hz0 hz1 hz2 rfl (by decide) _ _ _ rfl (World.ownsRow_lit w #[] 0 (Nat.le_refl _) (by unfold maxLen; omega) rfl) ad n cap (ints l) rfl ?_ ?_ ?_ ?_ ?_ ?_ ?_; (rw [length_ints, HN.out]; omega); (intro j u hu; rw [World.cell?_alloc_lt _ _ _ (by have := hlt.out j u hu; unfold Addr.add; split <;> exact this)]; exact hnews.out j u hu); (intro u hu; simp only [ints, List.mem_map] at hu; obtain ⟨x, _, rfl⟩ := hu; rfl); (unfold maxLen; omega); omega; (simp); intro v' w1 hown' hgrow _)
    go_ret
    refine ⟨_, rfl, by simpa using hown', ((Below.refl _ _).alloc (Nat.le_refl _) _).grown hgrow (by simp) (fun g hg => by cases hg; exact Nat.le_refl _)⟩
