/- Contracts of SetWins. -/
import Derived.Test.YtebjncgamchknaaKdClose
set_option linter.unusedVariables false
set_option linter.unusedSimpArgs false
namespace Go.KD
open Go.RowKit
noncomputable def pSetWins (m : Mz) (s : Int) : Bool × Bool := if askB m s then (setWinB m s.toNat, true) else (false, false)
def setBarB (m : Mz) (s : Nat) : Bool := !setWinB m (63 - s)
noncomputable def pSetBars (m : Mz) (s : Int) : Bool × Bool := if askB m s then (setBarB m s.toNat, true) else (false, false)
def barsK (m : Mz) (k : Nat) : List Bool := (List.range k).map fun t => setBarB m t
theorem barsK_snoc (m : Mz) (k : Nat) : barsK m (k + 1) = barsK m k ++ [setBarB m k] := by simp [barsK, List.range_succ]
@[simp] theorem barsK_len (m : Mz) (k : Nat) : (barsK m k).length = k := by simp [barsK]
theorem barsK_at {m : Mz} {n k : Nat} (hk : k < n) : (barsK m n)[k]! = setBarB m k := by
  rw [getElem!_pos _ k (by simpa using hk)]; simp [barsK]
theorem ask_parts {m : Mz} {s : Int} (h : askB m s = true) : MzOk m ∧ ∃ sn : Nat, s = sn ∧ sn < 64 := by
  simp only [askB, Bool.and_eq_true] at h
  obtain ⟨s0, s1⟩ := setB_true.1 h.2
  obtain ⟨sn, rfl⟩ := Int.eq_ofNat_of_zero_le s0
  exact ⟨mazeB_true.1 h.1, sn, rfl, by omega⟩
theorem own_bool {w : World} {lo g n cap : Nat} {e : TypeId} {l : List Bool} (h : w.ownsRow lo e 1 (.slice (some ⟨g, 0, none⟩) n cap) n (bools l)) (k : Nat) (hk : k < n) (hl : l.length = n) : w.cell? ⟨g, k, none⟩ = some (.bool l[k]!) := by
  rw [h.cellAt k (by omega), bools_at (by omega)]
end Go.KD
namespace Go.Proofs.Ytebjncgamchknaa
open Go.RowKit Go.KD
attribute [local go_sem] later_cell later_frozen
theorem setBars_c (v : Value) (m : Mz) (s : Nat) (w : World) (hm : MzAt w v m) (ok : MzOk m) (hs : s < 64) : Calls Try.prog 73 #[v, .int .i64 s] w fun e w' =>
    e = .returned (.bool (setBarB m s)) ∧ Below w.heap.size w w' := by
  have hM := hm
  obtain ⟨⟨ad, cd, ak, ck, rfl, hd, hk'⟩, nd, nk⟩ := hM
  have OK := Lib.hid ok; clear ok
  obtain ⟨t, ht⟩ : ∃ t, t = 63 - s := ⟨_, rfl⟩
  have hst : (63 : Int) - (s : Int) = (t : Int) := by omega
  have HT : Hid (setBarB m s = !setWinB m t) := by show _ = _; rw [ht]; rfl
  have ht64 : t < 64 := by omega
  clear ht
  go_enter Try.func73, Try.ntmps73
  go_wp2_with fail
  refine (setWins_c _ m t _ (hm.later (by (repeat (first | exact Below.refl _ _ | apply Below.drew | apply below_drewN | (refine Below.setCell ?_ (by first | omega | (simp; done) | (simp; omega) | (dsimp only; omega)) _) | (refine Below.alloc ?_ (by first | omega | (simp; done) | (simp; omega) | (dsimp only; omega)) _))))) OK.out ht64).mono ?_
  rintro e w1 ⟨rfl, hb1⟩
  go_wp2_with fail
  go_ret
  exact ⟨ret_bool (by rw [HT.out]), below_then (by (repeat (first | exact Below.refl _ _ | apply Below.drew | apply below_drewN | (refine Below.setCell ?_ (by first | omega | (simp; done) | (simp; omega) | (dsimp only; omega)) _) | (refine Below.alloc ?_ (by first | omega | (simp; done) | (simp; omega) | (dsimp only; omega)) _)))) hb1⟩
