/- What the law FnSpent asks: plain words. What the law FnSafe asks: plain words. -/
import Derived.Test.YtcjcgcgcloanpaaKps8
import Derived.Test.YtcjcgcgcloanpaaKps1
import Derived.Test.YtcjcgcgcloanpaaKps11
import Derived.Test.YtcjcgcgcloanpaaKps7
set_option linter.unusedVariables false
set_option linter.unusedSimpArgs false
namespace Go.KD
open Go.RowKit
/-- Keys of a colour at the first i of some nodes. -/
def sumK (m : Mz) (N : List Int) (c i : Nat) : Nat := (N.take i).countP fun x => (m.keys[x.toNat]!.toNat).testBit c
/-- Keys of a colour that the first i of some locks take. -/
def sumD (m : Mz) (L : List Int) (c i : Nat) : Nat := (L.take i).countP fun k => (m.doors[k.toNat]!.2.2.toNat).testBit c
theorem sumK_next (m : Mz) (N : List Int) (c : Nat) {i : Nat} (hi : i < N.length) : sumK m N c (i + 1) = sumK m N c i + if (m.keys[(N[i]!).toNat]!.toNat).testBit c then 1 else 0 := by
  unfold sumK
  rw [take_snoc hi, List.countP_append, List.countP_singleton]
theorem sumD_next (m : Mz) (L : List Int) (c : Nat) {i : Nat} (hi : i < L.length) : sumD m L c (i + 1) = sumD m L c i + if (m.doors[(L[i]!).toNat]!.2.2.toNat).testBit c then 1 else 0 := by
  unfold sumD
  rw [take_snoc hi, List.countP_append, List.countP_singleton]
theorem sumK_le (m : Mz) (N : List Int) (c i : Nat) : sumK m N c i ≤ i := by
  unfold sumK
  have h1 := List.countP_le_length (l := N.take i) (p := fun x => (m.keys[x.toNat]!.toNat).testBit c)
  rw [List.length_take] at h1
  omega
theorem sumD_le (m : Mz) (L : List Int) (c i : Nat) : sumD m L c i ≤ i := by
  unfold sumD
  have h1 := List.countP_le_length (l := L.take i) (p := fun k => (m.doors[k.toNat]!.2.2.toNat).testBit c)
  rw [List.length_take] at h1
  omega
theorem sumK_0 (m : Mz) (N : List Int) (c : Nat) : sumK m N c 0 = 0 := by unfold sumK; simp
theorem sumD_0 (m : Mz) (L : List Int) (c : Nat) : sumD m L c 0 = 0 := by unfold sumD; simp
structure SpentF (m : Mz) (L NR LF NX HP LK ND : List Int) (wins : Bool) : Prop where
  ok : MzOk m
  near : withinB NR (mem (nodesN m 0)) = true
  won : hasI NR (m.size - 1) = wins
  list : withinB L LK = true
  next : withinB NX LK = true
  hope : withinB HP NX = true
  more : ∀ k, k < LK.length → pIsOpening m (L ++ [LK[k]!]) = (hasI NX LK[k]!, true)
  lkin : ∀ k, k < LK.length → wfI LK[k]!
  nrin : ∀ i, i < NR.length → ∃ x : Nat, NR[i]! = x ∧ x < m.keys.length
  lin : ∀ i, i < L.length → ∃ x : Nat, L[i]! = x ∧ x < m.doors.length
  lfl : LF.length = 6
  ndl : ND.length = 6
  nrl : NR.length ≤ 40
  left : ∀ c, c < 6 → LF[c]! = (sumK m NR c NR.length : Int) - sumD m L c L.length ∧ 0 ≤ LF[c]! ∧ (sumD m L c L.length : Int) ≤ ND[c]! ∧ (0 < LF[c]! → (lastN m 0).testBit c = true)
theorem spent_facts {m : Mz} {L : List Int} (hg : goodB m = true) {O : Nat} (h : Opn m L O) (HP : List Int) (hh : ∀ x ∈ HP, x ∈ nextL m O L) : SpentF m L (mem (nearN m O)) (leftL m (nearN m O) L) (nextL m O L) HP (locksI m) (needsK m.doors m.doors.length) (wonB m O) := by
  have ok := good_ok hg
  have hop := opn_ok ok h
  have hk40 : ∀ k, k < (locksI m).length → ∃ j : Nat, (locksI m)[k]! = j ∧ j < m.doors.length := fun k hk => by
    have hm : (locksI m)[k]! ∈ locksI m := by rw [getElem!_pos _ k hk]; exact List.getElem_mem hk
    obtain ⟨j, hj⟩ := Int.eq_ofNat_of_zero_le (show 0 ≤ (locksI m)[k]! by
      unfold locksI locksK at hm
      obtain ⟨j, -, hj⟩ := List.mem_map.1 hm
      rw [show (locksI m)[k]! = (j : Int) from hj.symm]; omega)
    rw [hj] at hm ⊢
    exact ⟨j, rfl, (lock_mem.1 hm).1⟩
  refine ⟨ok, within_of (mem_sub (near_nodes ok h)), won_has ok O, within_of (opn_locks ok h), within_of (next_locks O L), within_of hh, fun k hk => ?_, fun k hk => ?_, fun i hi => ?_, fun i hi => ?_, leftL_len _ _ _, needsK_len _ _, mem_len40' _, fun c hc => ?_⟩
  · unfold pIsOpening
    rw [hg, ops_more h]
    rfl
  · obtain ⟨j, hj, hl⟩ := hk40 k hk
    rw [hj]
    have := ok.nd
    exact wfI_small (by omega) (by omega)
  · have hm : (mem (nearN m O))[i]! ∈ mem (nearN m O) := by rw [getElem!_pos _ i hi]; exact List.getElem_mem hi
    obtain ⟨x, -, hx, he⟩ := (in_mem _ _).1 hm
    have := nearN_in ok O x hx
    have := ok.nk
    exact ⟨x, he, by omega⟩
  · have hm : L[i]! ∈ L := by rw [getElem!_pos _ i hi]; exact List.getElem_mem hi
    obtain ⟨x, -, hx, he⟩ := (in_mem _ _).1 ((hop.mem _).1 hm)
    exact ⟨x, he, hop.lt x hx⟩
  · have e1 : sumK m (mem (nearN m O)) c (mem (nearN m O)).length = cntK m (nearN m O) c := by unfold sumK cntK; rw [List.take_length]
    have e2 : sumD m L c L.length = cntD m L c := by unfold sumD cntD; rw [List.take_length]
    rw [leftL_at _ _ _ c hc, e1, e2]
    exact ⟨rfl, hop.left c hc, spent_needs ok h hc, fun hl => left_last ok h hl⟩
theorem spent_all (m : Mz) (L : List Int) : ∃ is ok fine wins three, ∃ NR LF NX HP LK ND : List Int, (pIsOpening m L = (is, ok) ∧ pNearNodes m L = (NR, fine) ∧ pKeysLeft m L = (LF, fine) ∧ pNextLocks m L = (NX, fine) ∧ pWinsBy m L = (wins, fine) ∧ pHopefulLocks m L = (HP, three) ∧ pLocksOf m = (LK, ok) ∧ pLockNeeds m = (ND, ok)) ∧ ((ok = false ∧ is = false ∧ fine = false ∧ wins = false ∧ three = false) ∨ (ok = true ∧ is = false ∧ fine = false ∧ wins = false ∧ three = false) ∨ (ok = true ∧ is = true ∧ fine = true ∧ wins = true ∧ three = false) ∨ (ok = true ∧ is = true ∧ fine = true ∧ wins = false ∧ three = true)) ∧ (NR.length ≤ 1000000 ∧ LF.length ≤ 1000000 ∧ NX.length ≤ 1000000 ∧ HP.length ≤ 1000000 ∧ LK.length ≤ 1000000 ∧ ND.length ≤ 1000000) ∧ (fine = true → SpentF m L NR LF NX HP LK ND wins) := by
  have l1 := pNearNodes_len m L
  have l2 := pKeysLeft_len m L
  have l3 := pNextLocks_len m L
  have l4 := pHopefulLocks_len m L
  have l5 := pLocksOf_len m
  have l6 := pLockNeeds_len m
  refine ⟨(pIsOpening m L).1, (pIsOpening m L).2, (pNearNodes m L).2, (pWinsBy m L).1, (pHopefulLocks m L).2, (pNearNodes m L).1, (pKeysLeft m L).1, (pNextLocks m L).1, (pHopefulLocks m L).1, (pLocksOf m).1, (pLockNeeds m).1, ?_, ?_, ⟨l1, l2, l3, l4, l5, l6⟩, ?_⟩
  · unfold pIsOpening pNearNodes pKeysLeft pNextLocks pWinsBy pHopefulLocks pLocksOf pLockNeeds askOB
    cases goodB m <;> cases opsB m L <;> simp
  · unfold pIsOpening pNearNodes pWinsBy pHopefulLocks askOB
    cases goodB m <;> cases opsB m L <;> simp
    cases wonB m (opN m L) <;> simp
  · intro hf
    have hask : goodB m = true ∧ opsB m L = true := by
      unfold pNearNodes askOB at hf
      split at hf
      · rename_i h; rwa [Bool.and_eq_true] at h
      · cases hf
    have ha : askOB m L = true := by unfold askOB; rw [hask.1, hask.2]; rfl
    have hopn := opn_of hask.2
    have e1 : pNearNodes m L = (mem (nearN m (opN m L)), true) := by unfold pNearNodes; rw [ha]; rfl
    have e2 : pKeysLeft m L = (leftL m (nearN m (opN m L)) L, true) := by unfold pKeysLeft; rw [ha]; rfl
    have e3 : pNextLocks m L = (nextL m (opN m L) L, true) := by unfold pNextLocks; rw [ha]; rfl
    have e4 : pWinsBy m L = (wonB m (opN m L), true) := by unfold pWinsBy; rw [ha]; rfl
    have e5 : pLocksOf m = (locksI m, true) := by unfold pLocksOf; rw [hask.1]; rfl
    have e6 : pLockNeeds m = (needsK m.doors m.doors.length, true) := by unfold pLockNeeds; rw [hask.1]; rfl
    rw [e1, e2, e3, e4, e5, e6]
    refine spent_facts hask.1 hopn _ fun x hx => ?_
    unfold pHopefulLocks at hx
    split at hx
    · exact hope_next _ _ x hx
    · cases hx
end Go.KD

namespace Go.KD
open Go.RowKit
structure SafeF (m : Mz) (ok fine safe all : Bool) (N : Nat) (WN ST LK : List Int) : Prop where
  mok : MzOk m
  lk : pLocksOf m = (LK, true)
  lkl : LK.length ≤ 10
  sf : safe = !fine
  so : fine = false → ok = true
  n1 : 1 ≤ N
  n2 : N ≤ 2 ^ LK.length
  al : all = true → LK.length + 1 ≤ N
  wi : ok = true → winB m 0 = true ∧ pWinsBy m WN = (true, true) ∧ ∀ k, k < WN.length → ∃ HP, pHopefulLocks m (WN.take k) = (HP, true) ∧ hasI HP WN[k]! = true ∧ HP.length ≤ 1000000
  st : fine = true → pWinsBy m ST = (false, true) ∧ pNextLocks m ST = ([], true)
theorem opn_ask {m : Mz} (hg : goodB m = true) {L : List Int} {O : Nat} (h : Opn m L O) : askOB m L = true := by unfold askOB; rw [hg, opn_B h]; rfl
theorem opn_wf {m : Mz} (hg : goodB m = true) {L : List Int} {O : Nat} (h : Opn m L O) : L.length ≤ 30 ∧ ∀ x ∈ L, wfI x := ⟨opn_len (good_ok hg) h, op_wf (opn_ok (good_ok hg) h)⟩
theorem safe_all (m : Mz) : ∃ good ok fine safe all, ∃ N : Nat, ∃ WN ST LK : List Int, (pFirstWin m = (WN, ok) ∧ pFirstStuck m = (ST, fine) ∧ pIsSafe m = (safe, good) ∧ pCountStates m = ((N : Int), good) ∧ pAllOpened m = (all, good)) ∧ (WN.length ≤ 30 ∧ ST.length ≤ 30 ∧ N ≤ 1024) ∧ ((∀ x ∈ WN, wfI x) ∧ (∀ x ∈ ST, wfI x)) ∧ ((good = false ∧ ok = false ∧ fine = false ∧ safe = false ∧ all = false) ∨ (good = true ∧ safe = !fine ∧ (fine = false → ok = true))) ∧ (good = true → SafeF m ok fine safe all N WN ST LK) := by
  cases hg : goodB m
  · refine ⟨false, false, false, false, false, 0, [], [], [], ⟨?_, ?_, ?_, ?_, ?_⟩, ⟨by simp, by simp, by omega⟩, ⟨by simp, by simp⟩, .inl ⟨rfl, rfl, rfl, rfl, rfl⟩, fun h => (by cases h)⟩
    · unfold pFirstWin; rw [hg]; rfl
    · unfold pFirstStuck; rw [hg]; rfl
    · unfold pIsSafe; rw [hg]; rfl
    · unfold pCountStates; rw [hg]; rfl
    · unfold pAllOpened; rw [hg]; rfl
  · have ok := good_ok hg
    obtain ⟨W, hW⟩ : ∃ W, W = fstE (srZ m) (wonB m) := ⟨_, rfl⟩
    obtain ⟨S, hS⟩ : ∃ S, S = fstE (srZ m) (stuckP m) := ⟨_, rfl⟩
    obtain ⟨al, hal⟩ : ∃ al, al = (fstE (srZ m) (fun O => decide ((O : Int) = (allZ m : Int)))).isSome := ⟨_, rfl⟩
    have hn1 := (srZ_zok hg).pos
    have hn2 := (srZ_ok m).le2 hg
    have hn3 := srZ_le hg
    have hall : al = true → (locksI m).length + 1 ≤ (srZ m).length := fun h => all_many hg (by rw [← hal]; exact h)
    have hwon : ∀ L, W = some L → winB m 0 = true ∧ ∃ O, Opn m L O ∧ wonB m O = true ∧ ∀ k, k < L.length → ∃ O', Opn m (L.take k) O' ∧ wonB m O' = false ∧ L[k]! ∈ hopeL m O' (L.take k) := fun L h => won_first hg (by rw [← hW]; exact h)
    have hstu : ∀ L, S = some L → ∃ O, Opn m L O ∧ wonB m O = false ∧ nextL m O L = [] := fun L h => stuck_first hg (by rw [← hS]; exact h)
    have hsafe : S = none → W ≠ none := fun h => by rw [hW]; exact safe_won hg (by rw [← hS]; exact h)
    have e1 : pFirstWin m = (W.getD [], W.isSome) := by unfold pFirstWin; rw [hg, ← hW]; rfl
    have e2 : pFirstStuck m = (S.getD [], S.isSome) := by unfold pFirstStuck; rw [hg, ← hS]; rfl
    have e3 : pIsSafe m = (!S.isSome, true) := by unfold pIsSafe; rw [hg, ← hS]; rfl
    have e4 : pCountStates m = ((((srZ m).length : Nat) : Int), true) := by unfold pCountStates; rw [hg]; rfl
    have e5 : pAllOpened m = (al, true) := by unfold pAllOpened; rw [hg, ← hal]; rfl
    obtain ⟨N, hN⟩ : ∃ N, N = (srZ m).length := ⟨_, rfl⟩
    rw [← hN] at hn1 hn2 hn3 hall e4
    clear hN hW hS hal
    have hWl : (W.getD []).length ≤ 30 ∧ ∀ x ∈ W.getD [], wfI x := by
      cases hw : W with
      | none => simp
      | some L =>
        obtain ⟨-, O, h, -⟩ := hwon L hw
        exact opn_wf hg h
    have hSl : (S.getD []).length ≤ 30 ∧ ∀ x ∈ S.getD [], wfI x := by
      cases hs : S with
      | none => simp
      | some L =>
        obtain ⟨O, h, -⟩ := hstu L hs
        exact opn_wf hg h
    have hso : S.isSome = false → W.isSome = true := fun h => by
      cases hs : S with
      | some L => rw [hs] at h; cases h
      | none =>
        cases hw : W with
        | some L => rfl
        | none => exact absurd hw (hsafe hs)
    refine ⟨true, W.isSome, S.isSome, !S.isSome, al, N, W.getD [], S.getD [], locksI m, ⟨e1, e2, e3, e4, e5⟩, ⟨hWl.1, hSl.1, hn3⟩, ⟨hWl.2, hSl.2⟩, .inr ⟨rfl, rfl, hso⟩, fun _ => ?_⟩
    refine ⟨ok, by unfold pLocksOf; rw [hg]; rfl, good_lks hg, rfl, hso, hn1, hn2, hall, fun h => ?_, fun h => ?_⟩
    · cases hw : W with
      | none => rw [hw] at h; cases h
      | some L =>
        obtain ⟨h1, O, h2, h3, h4⟩ := hwon L hw
        refine ⟨h1, ?_, fun k hk => ?_⟩
        · show pWinsBy m L = _
          unfold pWinsBy
          rw [opn_ask hg h2, opn_N h2, h3]; rfl
        · change k < L.length at hk
          obtain ⟨O', h5, h6, h7⟩ := h4 k hk
          refine ⟨hopeL m O' (L.take k), ?_, hasI_iff.2 h7, ?_⟩
          · show pHopefulLocks m (L.take k) = _
            unfold pHopefulLocks
            rw [opn_ask hg h5, opn_N h5, h6]; rfl
          · have hl := pHopefulLocks_len m (L.take k)
            unfold pHopefulLocks at hl
            rw [opn_ask hg h5, opn_N h5, h6] at hl
            exact hl
    · cases hs : S with
      | none => rw [hs] at h; cases h
      | some L =>
        obtain ⟨O, h2, h3, h4⟩ := hstu L hs
        refine ⟨?_, ?_⟩
        · show pWinsBy m L = _
          unfold pWinsBy
          rw [opn_ask hg h2, opn_N h2, h3]; rfl
        · show pNextLocks m L = _
          unfold pNextLocks
          rw [opn_ask hg h2, opn_N h2, h4]; rfl
end Go.KD
