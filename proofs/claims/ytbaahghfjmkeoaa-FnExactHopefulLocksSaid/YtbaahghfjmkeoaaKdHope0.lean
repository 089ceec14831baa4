/- Can a maze still be won behind a set: plain words. -/
import Derived.Test.YtbaahghfjmkeoaaKdSrch0
set_option linter.unusedVariables false
set_option linter.unusedSimpArgs false
namespace Go.KD
open Go.RowKit
/-- Can it still be won behind O, with at most f further locks? -/
noncomputable def stillK (m : Mz) : Nat → Nat → Bool
  | 0, O => wonB m O
  | f + 1, O => wonB m O || (nextL m O (mem O)).any fun k => stillK m f (setN O k)
noncomputable def stillF (m : Mz) (O : Nat) : Bool := stillK m 10 O
theorem any_congr1 {α : Type} {l : List α} {f g : α → Bool} (h : ∀ x ∈ l, f x = g x) : l.any f = l.any g := by
  rw [Bool.eq_iff_iff, List.any_eq_true, List.any_eq_true]
  exact ⟨fun ⟨x, hx, he⟩ => ⟨x, hx, by rw [← h x hx]; exact he⟩, fun ⟨x, hx, he⟩ => ⟨x, hx, by rw [h x hx]; exact he⟩⟩
theorem nodup_le : ∀ {l l' : List Int}, l.Nodup → (∀ x ∈ l, x ∈ l') → l.length ≤ l'.length
  | [], l', _, _ => Nat.zero_le _
  | a :: l, l', hn, h => by
    have ha := h a (by simp)
    rw [List.nodup_cons] at hn
    have ih := nodup_le (l := l) (l' := l'.erase a) hn.2 (fun x hx => (List.mem_erase_of_ne (fun e => by rw [e] at hx; exact hn.1 hx)).2 (h x (by simp [hx])))
    rw [List.length_erase_of_mem ha] at ih
    have := List.length_pos_of_mem ha
    simp only [List.length_cons]; omega
theorem opn_lks {m : Mz} (ok : MzOk m) {L : List Int} {O : Nat} (h : Opn m L O) : L.length ≤ (locksI m).length := by
  have hop := opn_ok ok h
  refine nodup_le hop.nd fun y hy => ?_
  have hy' := (hop.mem y).1 hy
  obtain ⟨j, -, hj, rfl⟩ := (in_mem _ _).1 hy'
  exact lock_mem.2 (opn_bits ok h j hj)
theorem nextL_lks (m : Mz) (O : Nat) (L : List Int) : (nextL m O L).length ≤ (locksI m).length := by
  refine nodup_le (nextL_nodup m O L) fun y hy => ?_
  obtain ⟨k, hk, hl, -, rfl⟩ := in_nextK.1 hy
  exact lock_mem.2 ⟨hk, hl⟩
theorem opn_next {m : Mz} {L : List Int} {O : Nat} {k : Int} (h : Opn m L O) (hk : k ∈ nextL m O L) : Opn m (L ++ [k]) (setN O k) := opn_snoc h (by rw [hasI_iff]; exact hk)
theorem stillK_more {m : Mz} (ok : MzOk m) : ∀ (f : Nat) (L : List Int) (O : Nat), Opn m L O → (locksI m).length ≤ f + L.length → stillK m (f + 1) O = stillK m f O
  | 0, L, O, h, hf => by
    have hp := nextL_perm (opn_ok ok h)
    have hn : nextL m O L = [] := by
      cases hx : nextL m O L with
      | nil => rfl
      | cons k t =>
        have := opn_lks ok (opn_next h (k := k) (by rw [hx]; simp))
        simp at this; omega
    show (wonB m O || _) = wonB m O
    rw [hp, hn]; simp
  | f + 1, L, O, h, hf => by
    have hp := nextL_perm (opn_ok ok h)
    show (wonB m O || _) = (wonB m O || _)
    rw [hp]
    congr 1
    exact any_congr1 fun k hk => stillK_more ok f (L ++ [k]) (setN O k) (opn_next h hk) (by simp; omega)
theorem good_lks {m : Mz} (hg : goodB m = true) : (locksI m).length ≤ 10 := by simp only [goodB, Bool.and_eq_true, decide_eq_true_eq] at hg; exact hg.2
theorem still_eq {m : Mz} (hg : goodB m = true) {L : List Int} {O : Nat} (h : Opn m L O) : stillF m O = (wonB m O || (nextL m O L).any fun k => stillF m (setN O k)) := by
  have := stillK_more (good_ok hg) 10 L O h (by have := good_lks hg; omega)
  unfold stillF
  rw [← this]
  show (wonB m O || _) = _
  rw [nextL_perm (opn_ok (good_ok hg) h)]
theorem still_won {m : Mz} {O : Nat} (h : wonB m O = true) : stillF m O = true := by
  show (wonB m O || _) = true
  rw [h]; rfl
theorem addE_has (L : List Int) (O : Nat) (E : List En) (k : Int) : ∃ e ∈ addE L O E k, e.2 = setN O k := by
  unfold addE
  split
  · rename_i h
    obtain ⟨e, he, h⟩ := List.any_eq_true.1 h
    exact ⟨e, he, by simpa using h⟩
  · exact ⟨(L ++ [k], setN O k), by simp, rfl⟩
theorem fold_has (L : List Int) (O : Nat) {k : Int} : ∀ (l : List Int) (E : List En), k ∈ l → ∃ e ∈ l.foldl (addE L O) E, e.2 = setN O k
  | [], _, h => by simp at h
  | x :: l, E, h => by
    rw [List.mem_cons] at h
    rcases h with rfl | h
    · obtain ⟨e, he, h⟩ := addE_has L O E k
      exact ⟨e, (fold_pre L O l (addE L O E k)).subset he, h⟩
    · exact fold_has L O l (addE L O E x) h
theorem srF_closed {m : Mz} (hg : goodB m = true) {E0 : List En} (h0 : SrOk m E0) {e : En} (he : e ∈ srF m E0) {k : Int} (hk : k ∈ nextL m e.2 e.1) : ∃ e' ∈ srF m E0, e'.2 = setN e.2 k := by
  have hle : (srF m E0).length ≤ 1024 := SrOk.le (srE_ok h0 1024) hg
  have hpre : ∀ i, i ≤ 1024 → srE m E0 i <+: srF m E0 := fun i hi => srE_preF m E0 hi
  have heq : ∀ i, i ≤ 1024 → (srE m E0 i).length ≤ i → srF m E0 = srE m E0 i := fun i hi h => srF_eq hi h
  obtain ⟨F, hF⟩ : ∃ F, F = srF m E0 := ⟨_, rfl⟩
  rw [← hF] at he hle hpre heq ⊢
  clear hF
  obtain ⟨i, hi, hie⟩ := List.mem_iff_getElem.1 he
  have hi4 : i ≤ 1024 := Nat.le_trans (Nat.le_of_lt hi) hle
  have hlt : i < (srE m E0 i).length := by
    rcases Nat.lt_or_ge i (srE m E0 i).length with h | h
    · exact h
    · have := heq i hi4 h
      rw [this] at hi; omega
  have hat : (srE m E0 i)[i]! = e := by
    rw [← pre_at (hpre i hi4) hlt, getElem!_pos F i hi, hie]
  have hn := srE_next (m := m) (E0 := E0) hlt
  have h2 : ∃ e' ∈ expE m (srE m E0 i) i, e'.2 = setN e.2 k := by
    unfold expE expJ
    rw [List.take_length, hat]
    exact fold_has e.1 e.2 _ _ hk
  obtain ⟨e', he', h'⟩ := h2
  rw [← hn] at he'
  have hi5 : i + 1 ≤ 1024 := Nat.le_trans hi hle
  exact ⟨e', (hpre _ hi5).subset he', h'⟩
theorem still_reach {m : Mz} (hg : goodB m = true) {E0 : List En} (h0 : SrOk m E0) : ∀ (f : Nat) (e : En), e ∈ srF m E0 → stillK m f e.2 = true → ∃ e' ∈ srF m E0, wonB m e'.2 = true
  | 0, e, he, h => ⟨e, he, h⟩
  | f + 1, e, he, h => by
    have hO := (srE_ok h0 1024).all e he
    change (wonB m e.2 || _) = true at h
    rw [nextL_perm (opn_ok (good_ok hg) hO), Bool.or_eq_true, List.any_eq_true] at h
    rcases h with h | ⟨k, hk, h⟩
    · exact ⟨e, he, h⟩
    · obtain ⟨e', he', hee⟩ := srF_closed hg h0 he hk
      rw [← hee] at h
      exact still_reach hg h0 f e' he' h
theorem addE_from {m : Mz} (hg : goodB m = true) {Q : Prop} {L : List Int} {O : Nat} (hO : Opn m L O) (hq : stillF m O = true → Q) : ∀ (l : List Int) (E : List En), (∀ k ∈ l, k ∈ nextL m O L) → (∀ e ∈ E, stillF m e.2 = true → Q) → ∀ e ∈ l.foldl (addE L O) E, stillF m e.2 = true → Q
  | [], E, _, hE => hE
  | k :: l, E, hl, hE => by
    refine addE_from hg hO hq l (addE L O E k) (fun x hx => hl x (by simp [hx])) ?_
    unfold addE
    split
    · exact hE
    · intro e he h
      rw [List.mem_append] at he
      rcases he with he | he
      · exact hE e he h
      · have : e = (L ++ [k], setN O k) := by simpa using he
        subst this
        refine hq ?_
        rw [still_eq hg hO, Bool.or_eq_true, List.any_eq_true]
        exact .inr ⟨k, hl k (by simp), h⟩
theorem srE_from {m : Mz} (hg : goodB m = true) {E0 : List En} (h0 : SrOk m E0) {Q : Prop} (hE0 : ∀ e ∈ E0, stillF m e.2 = true → Q) : ∀ i, ∀ e ∈ srE m E0 i, stillF m e.2 = true → Q
  | 0 => hE0
  | i + 1 => by
    have ih := srE_from hg h0 hE0 i
    show ∀ e ∈ (if i < (srE m E0 i).length then expE m (srE m E0 i) i else srE m E0 i), _
    split
    · rename_i hi
      have hm : (srE m E0 i)[i]! ∈ srE m E0 i := by rw [getElem!_pos _ i hi]; exact List.getElem_mem hi
      exact addE_from hg ((srE_ok h0 i).all _ hm) (ih _ hm) _ _ (fun k hk => List.mem_of_mem_take hk) ih
    · exact ih
/-- Some set of the search wins exactly if one can still win. -/
theorem sr_still {m : Mz} (hg : goodB m = true) {L : List Int} {O : Nat} (h : Opn m L O) : (srF m [((L, O) : En)]).any (fun e => wonB m e.2) = stillF m O := by
  have h0 := sr_one m h
  rw [Bool.eq_iff_iff, List.any_eq_true]
  constructor
  · rintro ⟨e, he, hw⟩
    exact srE_from hg h0 (Q := stillF m O = true) (fun e he => by
      have he2 : e = ((L, O) : En) := by simpa using he
      rw [he2]; exact id) 1024 e he (still_won hw)
  · intro hs
    exact still_reach hg h0 10 (L, O) ((srE_preF m [((L, O) : En)] (Nat.zero_le 1024)).subset (by simp [srE])) hs
theorem sr_pack {m : Mz} (hg : goodB m = true) {L : List Int} {O : Nat} (h : Opn m L O) : ∃ E : List En, E = srF m [((L, O) : En)] ∧ SrOk m E ∧ E.length ≤ 1024 ∧ E.any (fun e => wonB m e.2) = stillF m O := by
  have h1 : SrOk m (srF m [((L, O) : En)]) := srE_ok (sr_one m h) 1024
  exact ⟨_, rfl, h1, h1.le hg, sr_still hg h⟩
/-! The map of what is known -/
def Snd (m : Mz) (f : Nat → Option Bool) : Prop := ∀ O x, f O = some x → x = stillF m O
theorem Snd.none (m : Mz) : Snd m (fun _ => none) := fun _ _ h => by cases h
theorem Snd.put {m : Mz} {f : Nat → Option Bool} (h : Snd m f) (O : Nat) : Snd m (fun j => if j = O then some (stillF m O) else f j) := by
  intro O' x hx
  dsimp only at hx
  split at hx
  · rename_i he; cases hx; rw [he]
  · exact h O' x hx
/-- Won, or still to be won behind one of the first j. -/
noncomputable def stJ (m : Mz) (O : Nat) (L : List Int) (j : Nat) : Bool := wonB m O || ((nextL m O L).take j).any fun k => stillF m (setN O k)
theorem stJ_0 (m : Mz) (O : Nat) (L : List Int) : stJ m O L 0 = wonB m O := by unfold stJ; simp
theorem stJ_next (m : Mz) (O : Nat) (L : List Int) {j : Nat} (hj : j < (nextL m O L).length) : stJ m O L (j + 1) = (stJ m O L j || stillF m (setN O (nextL m O L)[j]!)) := by
  unfold stJ; rw [take_snoc hj, List.any_append]; simp [Bool.or_assoc]
theorem stJ_all {m : Mz} (hg : goodB m = true) {L : List Int} {O : Nat} (h : Opn m L O) : stJ m O L (nextL m O L).length = stillF m O := by
  unfold stJ; rw [List.take_length, still_eq hg h]
/-- The locks that leave hope. -/
noncomputable def hopeL (m : Mz) (O : Nat) (L : List Int) : List Int := keepL (fun k => !stillF m (setN O k)) (nextL m O L)
noncomputable def pHopefulLocks (m : Mz) (L : List Int) : List Int × Bool := if askOB m L && !wonB m (opN m L) then (hopeL m (opN m L) L, true) else ([], false)
theorem pHopefulLocks_len (m : Mz) (L : List Int) : (pHopefulLocks m L).1.length ≤ 1000000 := by
  unfold pHopefulLocks
  split
  · rename_i h
    simp only [Bool.and_eq_true, askOB] at h
    have hg : goodB m = true := by simp_all
    have h1 := nextL_len m (opN m L) L
    have h2 := (good_ok hg).nd
    have h3 := keepL_le (fun k => !stillF m (setN (opN m L) k)) (nextL m (opN m L) L)
    show (keepL _ _).length ≤ _
    omega
  · simp
end Go.KD
