/- Both sides of EntrySets; how long the answer is. -/
import Derived.Test.YtldogbahbjompaaKdSets2
import Derived.Test.YtldogbahbjompaaKdSets5
set_option linter.unusedVariables false
set_option linter.unusedSimpArgs false
namespace Go.KD
open Go.RowKit
theorem rowsO_rows {L : List Nat} (nd : L.Nodup) (h : ∀ c ∈ L, c < 4096) : (rowsO L).length = L.length ∧ ∀ i, i < (rowsO L).length → ((rowsO L)[i]!).length ≤ 40 := by
  have hnd : (L.map mem).Nodup := by
    unfold List.Nodup
    rw [List.pairwise_map]
    exact List.Pairwise.imp_of_mem (fun {a b} ha hb hne e => hne (mem_inj (h a ha) (h b hb) e)) nd
  refine ⟨by unfold rowsO; rw [insAll_len, List.length_map], fun i hi => ?_⟩
  have h1 : (rowsO L)[i]! ∈ rowsO L := by rw [getElem!_pos _ i hi]; exact List.getElem_mem hi
  have h2 := ((insAll_ok hnd).2 _).1 h1
  obtain ⟨c, -, hc⟩ := List.mem_map.1 h2
  rw [← hc]; exact mem_len40' c
theorem pEntrySets_len (m : Mz) : (pEntrySets m).1.length ≤ 4096 ∧ ∀ i, i < (pEntrySets m).1.length → ((pEntrySets m).1[i]!).length ≤ 4096 := by
  unfold pEntrySets
  split
  · rename_i hb
    rw [Bool.and_eq_true, decide_eq_true_eq] at hb
    have ok := mazeB_true.1 hb.1
    have h1 := rowsO_rows (entK_nodup m (2 ^ (m.size.toNat - 1))) (fun c hc => ((entL_mem ok).1 hc).lt ok)
    have h2 := entK_len m (2 ^ (m.size.toNat - 1))
    have h3 : 2 ^ (m.size.toNat - 1) ≤ 2 ^ 7 := Nat.pow_le_pow_right (by omega) (by have := hb.2; omega)
    refine ⟨?_, fun i hi => ?_⟩
    · show (rowsO (entL m)).length ≤ 4096
      have : (rowsO (entL m)).length = (entL m).length := h1.1
      have : (entL m).length ≤ 2 ^ (m.size.toNat - 1) := h2
      omega
    · exact Nat.le_trans (h1.2 i hi) (by omega)
  · exact ⟨by simp, fun i hi => by simp at hi⟩
end Go.KD
