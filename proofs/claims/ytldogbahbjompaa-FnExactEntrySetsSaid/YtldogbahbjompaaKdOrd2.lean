/- Contracts of l5Full and of LastEntryOrder. -/
import Derived.Test.YtldogbahbjompaaKdOrd
set_option linter.unusedVariables false
set_option linter.unusedSimpArgs false
namespace Go.KD
open Go.RowKit
noncomputable def pLastEntryOrder (m : Mz) : List Int × Bool := if mazeB m then (fullL m true, true) else ([], false)
theorem pLastEntryOrder_len (m : Mz) : (pLastEntryOrder m).1.length ≤ 1000000 := by
  unfold pLastEntryOrder
  split
  · rename_i h; have := fullL_len (mazeB_true.1 h) true; simp only; omega
  · simp
end Go.KD
namespace Go.Proofs.Ytldogbahbjompaa
open Go.RowKit Go.KD
attribute [local go_sem] later_cell later_frozen
set_option maxRecDepth 100000 in
set_option maxHeartbeats 4000000 in
theorem l5Full_c (v : Value) (m : Mz) (last : Bool) (w : World) (hm : MzAt w v m) (ok : MzOk m) :
    Calls Try.prog 130 #[v, .bool last] w fun e w' => ∃ u, e = .returned u ∧ w'.ownsRow w.heap.size 3 1 u (fullL m last).length (ints (fullL m last)) ∧ Below w.heap.size w w' := by
  have hM := hm
  obtain ⟨⟨ad, cd, ak, ck, rfl, hd, hk'⟩, nd, nk⟩ := hM
  obtain ⟨i0, ji, jz0, jz1, jz2⟩ := info_parts infoI
  have HI := Lib.hid (fuK_in' ok last)
  have HL := Lib.hid (fuK_lt ok last)
  have HLen := Lib.hid (fuK_len ok last)
  have HN := Lib.hid (nexN_lt ok)
  have OK := Lib.hid ok; clear ok
  have HO1 : Hid (((w.alloc (.cells #[.int .i64 m.size, .slice ad m.doors.length cd, .slice ak m.keys.length ck] 29)).alloc (.cells #[.int .i64 0] 3)).ownsRow (w.heap.size + 1) 3 1 (.slice (some ⟨w.heap.size + 1, 0, none⟩) 1 1) 1 (ints [0])) := by
    have := World.ownsRow_lit (base := w.heap.size + 1) (e := 3) (size := 1) (w.alloc (.cells #[.int .i64 m.size, .slice ad m.doors.length cd, .slice ak m.keys.length ck] 29)) #[.int .i64 0] 1 (by simp) (by unfold maxLen; omega) rfl
    simp at this
    exact this
  have e0 : (fuK m last 0) = ([0], 1) := rfl
  have E0 := Lib.hid e0; clear e0
  go_enter Try.func130, Try.ntmps130
  go_wp2
  go_loopw [5, 6] (fun u nd wr => ∃ k : Nat, nd = .int .i64 (fuK m last k).2 ∧ k ≤ (fuK m last k).2 ∧ Below (w.heap.size + 1) (w.alloc (.cells #[.int .i64 m.size, .slice ad m.doors.length cd, .slice ak m.keys.length ck] 29)) wr ∧ Hid (wr.ownsRow (w.heap.size + 1) 3 1 u (fuK m last k).1.length (ints (fuK m last k).1))) (fun _ nd _ => 4096 - (intOf nd).toNat)
  case atStart => exact ⟨0, by rw [E0.out]; rfl, Nat.zero_le _, (Below.refl _ _).alloc (by simp) _, by rw [E0.out]; exact HO1.out⟩
  case round =>
    obtain ⟨wo, rfl⟩ : ∃ wo : World, wo = wr := ⟨_, rfl⟩
    obtain ⟨k, rfl, hk, hb, HO⟩ := hrel
    have HBo := Lib.hid hb
    have HB := Lib.hid (below_box hb (by omega))
    obtain ⟨q0, q1, q2, z3⟩ := box3 hb (by omega)
    clear hb HO1
    have hs := HL.out k
    have hs1 := HL.out (k + 1)
    have hlen := HLen.out k
    have hIk := HI.out k
    have hI1 := HI.out (k + 1)
    have hx := HN.out (fuK m last k).2
    by_cases h0 : nexN m (fuK m last k).2 = 0
    · have HF := Lib.hid (fuK_full OK.out hk h0)
      obtain ⟨sN, hsN⟩ : ∃ sN, sN = (fuK m last k).2 := ⟨_, rfl⟩
      rw [← hsN] at hx h0 hs hk hIk hlen ⊢
      obtain ⟨aM, cM, rfl⟩ := own_slice HO.out
      have H0 := Lib.hid h0
      clear hsN h0
      go_wp2_with fail
      refine (l5Next_c _ m sN _ (hm.later HB.out) OK.out hIk).mono ?_
      rintro e w2 ⟨v2, rfl, ho2, hb2⟩
      rw [H0.out, mem_zero] at ho2
      obtain ⟨a2, c2, rfl⟩ := own_slice ho2
      simp only [List.length_nil] at ho2 ⊢
      go_wp2_with fail
      go_ret
      exact ⟨_, rfl, by rw [fullL_eq HF.out]; exact own_below (Own.mono (Own.of HO.out) (by omega) (Nat.le_refl _)).row hb2, below_then HB.out hb2⟩
    · have hg := fu_grows OK.out last hs h0
      obtain ⟨i, hi, hi1, hi12, -, -⟩ := pick_next OK.out last hs h0
      have HST : Hid (fuK m last (k + 1) = ((fuK m last k).1 ++ [(i : Int)], setN (fuK m last k).2 (i : Int))) := by
        show fuS m last (fuK m last k) = _
        rw [fuS, if_neg h0, hi]
      have HG : Hid ((fuK m last k).2 < (fuK m last (k + 1)).2) := hg
      obtain ⟨aL, haL⟩ : ∃ aL, aL = (fuK m last k).1 := ⟨_, rfl⟩
      obtain ⟨sN, hsN⟩ : ∃ sN, sN = (fuK m last k).2 := ⟨_, rfl⟩
      rw [← haL] at hlen HO HST
      rw [← hsN] at hx h0 hs hk hlen HST HG hi hIk ⊢
      obtain ⟨uN, huN⟩ : ∃ uN, uN = (fuK m last (k + 1)).2 := ⟨_, rfl⟩
      rw [← huN] at hs1 HG hI1
      have HU := Lib.hid huN
      have HU2 : Hid (uN = setN sN (i : Int)) := by rw [huN, HST.out]; exact rfl
      obtain ⟨p, HP, ep, hp⟩ := shl_at i hi12
      have hi0 : (0 : Int) ≤ (i : Int) := by omega
      have hi2 : (i : Int) < 12 := by omega
      have eo : bits .or .i64 (sN : Int) (p : Int) = (uN : Int) := by rw [i64_or sN p (by omega) (by omega), HU2.out]; simp [setN, HP.out]
      have hne : mem (nexN m sN) ≠ [] := fun e => h0 (mem_nil hx e)
      have hlp : 0 < (mem (nexN m sN)).length := List.length_pos_iff.2 hne
      have hml : (mem (nexN m sN)).length ≤ 40 := by rw [mem_eq]; exact memK_len _ _
      have hlp' : ¬ ((mem (nexN m sN)).length = 0) := by omega
      clear haL h0 hg hne hsN huN
      obtain ⟨aM, cM, rfl⟩ := own_slice HO.out
      go_wp2_with fail
      refine (l5Next_c _ m sN _ (hm.later HB.out) OK.out hIk).mono ?_
      rintro e w2 ⟨v2, rfl, ho2, hb2⟩
      obtain ⟨a2, c2, rfl, -, hc2⟩ := (Own.of ho2).ic
      have HB2 : Hid (Below (w.heap.size + 1) (w.alloc (.cells #[.int .i64 m.size, .slice ad m.doors.length cd, .slice ak m.keys.length ck] 29)) w2) := HBo.out.trans (hb2.mono (by omega))
      have HO2 := Lib.hid (own_below HO.out hb2)
      obtain ⟨L, hL⟩ : ∃ L, L = mem (nexN m sN) := ⟨_, rfl⟩
      rw [← hL] at hc2 hml hlp hlp' hi ⊢
      have hz2 : w.heap.size + 1 ≤ w2.heap.size := by have := HB2.out.size; simpa using this
      clear ho2 hb2 q0 q1 q2 hL
      obtain ⟨b, off, y0, rfl, HY0, hbs0, t0⟩ := hc2.at 0 hlp
      obtain ⟨b', off', y1, hb', HY1, hbs1, t1⟩ := hc2.at (L.length - 1) (by omega)
      cases hb'
      rw [Nat.add_zero] at t0
      have hL1 : (L.length : Int) - 1 = ((L.length - 1 : Nat) : Int) := by omega
      obtain ⟨l1, hl1⟩ : ∃ l1, l1 = L.length - 1 := ⟨_, rfl⟩
      have hl1' : l1 < L.length := by omega
      have hl10 : (0 : Int) ≤ (l1 : Int) := by omega
      have hl11 : (l1 : Int) < (L.length : Int) := by omega
      have hl12 : (0 : Int) < (L.length : Int) := by omega
      rw [← hl1] at t1 HY1 hL1
      cases last
      · have hi' : y0 = (i : Int) := by rw [← hi, pick_first, HY0.out]
        subst hi'
        clear hi
        go_wp2_with (at_builtin; refine wpList_append_own _ rfl _ _ 23 rfl (w.heap.size + 1) 3 i0 (.int .i64 0) 1 8 Try.underlying23 ji jz0 jz1 jz2 rfl (by decide) _ _ _ rfl (HO2.out.alloc _) ⟨w2.heap.size, 0, none⟩ 1 1 [.int .i64 i] rfl rfl ?_ ?_ ?_ ?_ ?_ ?_; (exact cell_one_new _ _ _); (simp [Value.oneCell']); (unfold maxLen; omega); omega; (simp; omega); intro v' w4 hown' hgrow _)
        go_roundw
        case rel => exact ⟨k + 1, by rw [HU.out], by have := HG.out; have := HU.out; omega, (HB2.out.alloc hz2 _).grown hgrow (by simp; omega) (fun g hg => own_block_lo HO2.out hg), by rw [HST.out, ints_snoc, List.length_append]; exact hown'⟩
        case measure => have := HG.out; simp [intOf]; omega
      · have hi' : y1 = (i : Int) := by rw [← hi, pick_last, ← HY1.out, hl1]
        subst hi'
        clear hi hl1
        go_wp2_with (at_builtin; refine wpList_append_own _ rfl _ _ 23 rfl (w.heap.size + 1) 3 i0 (.int .i64 0) 1 8 Try.underlying23 ji jz0 jz1 jz2 rfl (by decide) _ _ _ rfl (HO2.out.alloc _) ⟨w2.heap.size, 0, none⟩ 1 1 [.int .i64 i] rfl rfl ?_ ?_ ?_ ?_ ?_ ?_; (exact cell_one_new _ _ _); (simp [Value.oneCell']); (unfold maxLen; omega); omega; (simp; omega); intro v' w4 hown' hgrow _)
        go_roundw
        case rel => exact ⟨k + 1, by rw [HU.out], by have := HG.out; have := HU.out; omega, (HB2.out.alloc hz2 _).grown hgrow (by simp; omega) (fun g hg => own_block_lo HO2.out hg), by rw [HST.out, ints_snoc, List.length_append]; exact hown'⟩
        case measure => have := HG.out; simp [intOf]; omega
