/- Acts of works: plain words, and contracts of isVisitOf, l8Visit, behind, l8Do, acts. -/
import Derived.Test.YtldogbahbjompaaKdGates
import Derived.Test.YtldogbahbjompaaKdList
import Derived.Test.YtldogbahbjompaaKdSort
import Derived.Lib.AppendZerosOnto
import Derived.Lib.SliceRun
import Derived.IntWalk
set_option linter.unusedVariables false
set_option linter.unusedSimpArgs false
namespace Go.KD
def xorV (a b : Int) : Int := ((a.toNat ^^^ b.toNat : Nat) : Int)
theorem xorV_bits {a b : Int} (ha : 0 ≤ a ∧ a < 64) (hb : 0 ≤ b ∧ b < 64) : bits .xor .i64 a b = xorV a b := by
  obtain ⟨n, rfl⟩ := Int.eq_ofNat_of_zero_le ha.1
  obtain ⟨k, rfl⟩ := Int.eq_ofNat_of_zero_le hb.1
  rw [i64_xor n k (by omega) (by omega)]
  simp [xorV]
/-- The nodes next to x by a gate that is open. -/
def adjG (x l : Int) (s : Nat) (g : D4) : Nat :=
  if openB g l then (if g.2.1 = x then setN (if g.1 = x then setN s g.2.1 else s) g.1 else (if g.1 = x then setN s g.2.1 else s)) else s
def nbK (gs : List D4) (x l : Int) (k : Nat) : Nat := (gs.take k).foldl (adjG x l) 0
def actsL (m : Wk) (x l : Int) : List Int := (if m.pulls[x.toNat]! = 0 then [] else [-1]) ++ mem (nbK m.gates x l m.gates.length)
noncomputable def visitB (m : Wk) (x l : Int) : Bool := worksB m && inB x 0 (m.size - 1) && setB l
theorem nb_step {gs : List D4} {x l : Int} {k : Nat} (hk : k < gs.length) : nbK gs x l (k + 1) = adjG x l (nbK gs x l k) gs[k]! := by
  unfold nbK
  rw [take_snoc hk, List.foldl_append]
  rfl
theorem nb_lt {m : Wk} (ok : WkOk m) (x l : Int) : ∀ k, k ≤ m.gates.length → nbK m.gates x l k < 4096
  | 0, _ => by simp [nbK]
  | k + 1, hk => by
    have ih := nb_lt ok x l k (by omega)
    rw [nb_step (by omega)]
    obtain ⟨a, b, c, d, hg⟩ : ∃ a b c d, m.gates[k]! = (a, b, c, d) := ⟨_, _, _, _, rfl⟩
    have f := gate_facts ok (by omega) hg
    have hs := ok.s2
    have ha : 0 ≤ a ∧ a < 12 := by omega
    have hb : 0 ≤ b ∧ b < 12 := by omega
    rw [hg]
    unfold adjG
    dsimp only
    split
    · split <;> split <;> first | exact ih | exact setN_lt ih ha | exact setN_lt ih hb | exact setN_lt (setN_lt ih hb) ha
    · exact ih
end Go.KD
namespace Go.Proofs.Ytldogbahbjompaa
open Go.RowKit Go.KD
attribute [local go_sem] later_cell later_frozen
set_option maxRecDepth 100000 in
set_option maxHeartbeats 2000000 in
theorem grow_c (n : Nat) (h0 : 0 < n) (hn : n ≤ 100000) (w : World) : Calls Try.prog 147 #[.slice none 0 0, .int .i64 n] w fun e w' =>
    ∃ v, e = .returned v ∧ w'.ownsRow w.heap.size 3 1 v 0 [] ∧ Below w.heap.size w w' := by
  obtain ⟨i0, hi, hz0, hz1, hz2⟩ := info_parts infoI
  have h1 : decide ((n : Int) < 0) = false := by simp
  have h4 : decide ((n : Int) > 0) = true := by simp; omega
  have hold : (Builtin.firstCells i0.size 0 (.slice none 0 0)).run Try.prog w.drew = .ok #[] w.drew := run_firstCells_none w.drew i0.size 0 0 0
  have hrz : ∀ ty, (Builtin.append_ #[23, 3] ty #[.slice none 0 0, .int .i64 n]).run Try.prog w =
      .ok (.slice (some ⟨w.heap.size, 0, none⟩) n (grownCap w n 0 3)) (w.drew.alloc (.cells (#[] ++ Builtin.zeroCells (Value.int .i64 0).cells n ++ Builtin.zeroCells (Value.int .i64 0).cells (grownCap w n 0 3 - n)) 3)) := fun ty => by
    have h := Lib.run_append_grow_zeros w 23 3 ty 3 i0 (.int .i64 0) .i64 .i64 Try.underlying23 Try.underlying3 hi hz0 none 0 0 [] (by exact hold) n h0 (by rw [hz1]; omega) (by omega) (by omega)
      (by rw [hz2]; omega)
      (by rw [Nat.zero_add]; exact growslice_fits (by omega) (by rw [hz2]; omega))
    rw [Nat.zero_add] at h
    exact h
  have hGn : n ≤ grownCap w n 0 3 := by have := grownCap_ge w n 0 3; omega
  have hGm := grownCap_le_maxLen w n 0 3 (by unfold maxLen; omega)
  obtain ⟨G, hG⟩ : ∃ G, G = grownCap w n 0 3 := ⟨_, rfl⟩
  rw [← hG] at hrz hGn hGm
  have hG63 : G ≤ 9223372036854775807 := by unfold maxLen at hGm; omega
  have hG63' : (0 : Int) ≤ (G : Int) := by omega
  clear hold hG
  go_enter Try.func147, Try.ntmps147
  go_wp2_with (at_builtin; refine Lib.wpList_append_run _ rfl _ _ _ _ rfl _ _ rfl rfl _ _ (hrz _) ?_)
  go_ret
  refine ⟨_, rfl, ?_, ((Below.refl _ _).drew).alloc (Nat.le_refl _) _⟩
  exact World.ownsRow_made w.drew _ _ (Nat.le_refl _) hGm (by simp only [Array.size_append, size_zeroCells, List.size_toArray, List.length_nil]; simp only [List.length_singleton]; omega)
end Go.Proofs.Ytldogbahbjompaa
