/- Draws of clutters. -/
import Derived.Test.YtmilpahggceemaaKdFn
import Derived.Test.YtmilpahggceemaaKdClutO
set_option linter.unusedVariables false
set_option linter.unusedSimpArgs false
namespace Go.KD
open Go.RowKit
/-- A list that a draw gives, as it reads. -/
def ListQ (c n k : Nat) (w : World) (e : Ending) (w' : World) : Prop := ∃ a cp, ∃ L : List Int, e = .returned (.slice a L.length cp) ∧ (∀ w'', Chg c (c + 1) w' w'' → IC w'' a L) ∧ L.length ≤ k ∧ (∀ x ∈ L, wfI x) ∧ CuW c n w w'
end Go.KD
namespace Go.Proofs.Ytmilpahggceemaa
open Go.RowKit Go.KD
attribute [local go_sem] later_cell later_frozen
set_option maxRecDepth 100000 in
set_option maxHeartbeats 4000000 in
theorem drawnClutter_c (c n : Nat) (hn : n ≤ 600000) (w : World) (h : Cu c n w) : Calls Try.prog 135 #[.pointer (some ⟨c, 0, none⟩)] w (ListQ c (n + 66) 64 w) := by
  obtain ⟨i0, hi, hz0, hz1, hz2⟩ := info_parts infoI
  have HC := Lib.hid h
  have hcz := h.lt
  clear h
  go_enter Try.func135, Try.ntmps135
  go_wp2_with fail
  refine (sets_c c n (by omega) _ HC.out).mono ?_
  rintro e w1 ⟨v, L, rfl, ho, hl, hwf, hW1⟩
  obtain ⟨a1, c1, rfl⟩ := own_slice ho
  have HO1 := Lib.hid ho
  have HL := Lib.hid hwf
  have HW1 := Lib.hid hW1
  clear ho hwf hW1
  obtain ⟨R, b, hp⟩ : ∃ R b, pClutterOf L = (R, b) := ⟨_, _, rfl⟩
  have HR : Hid (R.length ≤ 64 ∧ ∀ x ∈ R, wfI x) := by
    unfold pClutterOf at hp
    split at hp
    · cases hp
      refine ⟨by rw [natsI_len]; exact lstL_len _, fun x hx => ?_⟩
      obtain ⟨t, ht, rfl⟩ := List.mem_map.1 hx
      have := lstL_lt ht
      exact wfI_small (by omega) (by omega)
    · cases hp
      exact ⟨by simp, fun x hx => (by cases hx)⟩
  have HP := Lib.hid hp
  clear hp
  go_wp2_with fail
  refine (specClutterOfO_c _ _ L _ R b HP.out (ic_of' (Own.of HO1.out) rfl) (by omega) HL.out).mono ?_
  rintro e w2 ⟨u2, rfl, ho2, hb2⟩
  obtain ⟨a2, c2, rfl⟩ := own_slice ho2
  have hsz1 := HW1.out.ch.size
  have HO2 : Hid (w2.ownsRow w.heap.size 3 1 (.slice a2 R.length c2) R.length (ints R)) := (Own.mono (Own.of ho2) hsz1 (Nat.le_refl _)).row
  have HO1b : Hid (w2.ownsRow w.heap.size 3 1 (.slice a1 L.length c1) L.length (ints L)) := ((Own.of HO1.out).later hb2 (Nat.le_refl _)).row
  have HW2 := Lib.hid (HW1.out.below hb2 (Nat.le_refl _))
  clear ho2 hb2 HO1 HW1
  cases b
  rotate_left
  go_wp2_with fail
  refine (one_c c (n + 62) 12 (by omega) (by omega) (by omega) _ HW2.out.cu).mono ?_
  rintro e w3 ⟨b1, rfl, hc3, hu3⟩
  have HO3 : Hid (w3.ownsRow w.heap.size 3 1 (.slice a1 L.length c1) L.length (ints L)) := own_chgC HO1b.out hc3 hcz
  have HO4 : Hid (w3.ownsRow w.heap.size 3 1 (.slice a2 R.length c2) R.length (ints R)) := own_chgC HO2.out hc3 hcz
  have HW3 : Hid (CuW c (n + 64) w w3) := HW2.out.trans ⟨hc3, hu3⟩
  clear hc3 hu3
  cases b1
  · go_wp2_with fail
    go_ret
    exact ⟨a2, c2, R, rfl, fun w'' h => ic_of' (Own.of (own_chgC HO4.out h hcz)) rfl, HR.out.1, HR.out.2, HW3.out.mono (by omega)⟩
  rotate_left
  go_wp2_with fail
  obtain ⟨w3, rfl⟩ : ∃ w3 : World, w3 = w2 := ⟨_, rfl⟩
  have HO3 := Lib.hid HO1b.out
  have HW3 : Hid (CuW c (n + 64) w w3) := HW2.out.mono (by omega)
  rotate_left
  go_wp2_with fail
  all_goals
    clear HO1b HO2 HW2
    refine (one_c c (n + 64) 4 (by omega) (by omega) (by omega) _ HW3.out.cu).mono ?_
    rintro e w4 ⟨b4, rfl, hc4, hu4⟩
    have HO5 : Hid (w4.ownsRow w.heap.size 3 1 (.slice a1 L.length c1) L.length (ints L)) := own_chgC HO3.out hc4 hcz
    have HW4 : Hid (CuW c (n + 66) w w4) := HW3.out.trans ⟨hc4, hu4⟩
    have hsz4 := HW4.out.ch.size
    clear hc4 hu4
    cases b4
    · go_wp2_with fail
      go_ret
      exact ⟨a1, c1, L, rfl, fun w'' h => ic_of' (Own.of (own_chgC HO5.out h hcz)) rfl, by omega, HL.out, HW4.out.mono (by omega)⟩
    · have HA : Hid (CuW c (n + 66) w (w4.alloc (.cells #[] 3))) := HW4.out.alloc _
      have HRW : Hid ((w4.alloc (.cells #[] 3)).ownsRow w.heap.size 3 1 (.slice (some ⟨w4.heap.size, 0, none⟩) 0 0) 0 (ints [])) := World.ownsRow_lit _ _ _ hsz4 (by unfold maxLen; omega) (by rfl)
      go_wp2_with fail
      go_loopw [3, 6] (fun u i wr => ∃ k : Nat, ∃ M : List Int, i = .int .i64 k ∧ k ≤ 64 ∧ M.length ≤ k ∧ Hid (wr.ownsRow w.heap.size 3 1 u M.length (ints M)) ∧ Hid (∀ x ∈ M, wfI x) ∧ Hid (CuW c (n + 66) w wr)) (fun _ i _ => 64 - (intOf i).toNat)
      case atStart => exact ⟨0, [], rfl, by omega, Nat.zero_le _, HRW, fun x hx => (by cases hx), HA⟩
      case round =>
        clear HRW HA HW4 HO5 HO3 HW3
        obtain ⟨wi, rfl⟩ : ∃ wi : World, wi = wr := ⟨_, rfl⟩
        obtain ⟨k, M, rfl, hk, hM, HO, HM, HW⟩ := hrel
        have hzi := HW.out.ch.size
        by_cases hlt : k < 64
        · have hkI : (k : Int) < 64 := by omega
          obtain ⟨bb, hbb⟩ : ∃ bb, bb = (popc k == 3) := ⟨_, rfl⟩
          have HBB := Lib.hid hbb
          clear hbb
          go_wp2_with fail
          refine (l2Many_c k hlt _).mono ?_
          rintro e w5 ⟨rfl, rfl⟩
          cases bb
          · have h3 : (popc k == 3) = false := HBB.out.symm
            go_wp2_with fail
            clear h3
            go_roundw
            case rel => exact ⟨k + 1, M, by go_num, by omega, by omega, HO, HM, HW⟩
            case measure => simp [intOf]; omega
          · have h3 : (popc k == 3) = true := HBB.out.symm
            have hM63 : M.length ≤ 63 := by omega
            go_wp2_with (at_builtin; refine wpList_append_own _ rfl _ _ 24 rfl w.heap.size 3 i0 (.int .i64 0) 1 8 Try.underlying24 hi hz0 hz1 hz2 rfl (by decide) _ _ _ rfl (HO.out.alloc _) ⟨wi.heap.size, 0, none⟩ 1 1 [.int .i64 (k : Int)] rfl rfl ?_ ?_ ?_ ?_ ?_ ?_; (exact cell_one_new _ _ _); (simp [Value.oneCell']); (unfold maxLen; omega); omega; (simp; omega); intro v' w6 hown' hgrow _)
            clear h3
            go_roundw
            case rel => exact ⟨k + 1, M ++ [(k : Int)], by go_num, by omega, by rw [List.length_append]; simp; omega, by rw [ints_snoc, List.length_append]; exact hown', fun x hx => (by
              rw [List.mem_append] at hx
              rcases hx with hx | hx
              · exact HM.out x hx
              · have : x = (k : Int) := by simpa using hx
                rw [this]; exact wfI_small (by omega) (by omega)), (HW.out.alloc _).grown hgrow (fun g hg => own_block_lo HO.out hg) (Nat.le_refl _) hcz⟩
            case measure => simp [intOf]; omega
        · obtain rfl : k = 64 := by omega
          obtain ⟨aM, cM, rfl⟩ := own_slice HO.out
          go_wp2_with fail
          go_ret
          exact ⟨aM, cM, M, rfl, fun w'' h => ic_of' (Own.of (own_chgC HO.out h hcz)) rfl, hM, HM.out, HW.out⟩
theorem drawIsClutter_c (a : Option Addr) (n cap : Nat) (w : World) (hb : BC w a n) (hn : n ≤ 65536) : Calls Try.prog 124 #[.slice a n cap] w (DListP 64 w) := by
  have HC := Lib.hid (cu_start (cap := cap) (T := 98) hb hn)
  clear hb
  go_enter Try.func124, Try.ntmps124
  go_wp2_with fail
  refine (drawnClutter_c w.heap.size 0 (by omega) _ HC.out).mono ?_
  rintro e w1 ⟨a1, c1, L, rfl, hi, hl, hwf, hW⟩
  go_wp2_with fail
  go_ret
  exact ⟨a1, c1, L, rfl, hi _ (Chg.refl _ _ _), hl, hwf, hW.start⟩
theorem drawDualOf_c (a : Option Addr) (n cap : Nat) (w : World) (hb : BC w a n) (hn : n ≤ 65536) : Calls Try.prog 12 #[.slice a n cap] w (DListP 64 w) := by
  have HC := Lib.hid hb
  clear hb
  go_enter Try.func12, Try.ntmps12
  go_wp2_with fail
  refine (drawIsClutter_c a n cap _ HC.out hn).mono ?_
  rintro e w1 ⟨a1, c1, L, rfl, hi, hl, hwf, hW⟩
  go_wp2_with fail
  go_ret
  exact ⟨a1, c1, L, rfl, hi, hl, hwf, hW⟩
theorem drawClutterOf_c (a : Option Addr) (n cap : Nat) (w : World) (hb : BC w a n) (hn : n ≤ 65536) : Calls Try.prog 17 #[.slice a n cap] w (DListP 64 w) := by
  have HC := Lib.hid (cu_start (cap := cap) (T := 98) hb hn)
  clear hb
  go_enter Try.func17, Try.ntmps17
  go_wp2_with fail
  refine (sets_c w.heap.size 0 (by omega) _ HC.out).mono ?_
  rintro e w1 ⟨v, L, rfl, ho, hl, hwf, hW⟩
  obtain ⟨a1, c1, rfl⟩ := own_slice ho
  go_wp2_with fail
  go_ret
  exact ⟨a1, c1, L, rfl, ic_of' (Own.of ho) rfl, by omega, hwf, hW.start⟩
theorem drawMeetsAll_c (a : Option Addr) (n cap : Nat) (w : World) (hb : BC w a n) (hn : n ≤ 65536) : Calls Try.prog 20 #[.slice a n cap] w fun e w' => ∃ a c, ∃ L : List Int, ∃ s : Int, e = .returned (.tuple #[.slice a L.length c, .int .i64 s]) ∧ IC w' a L ∧ L.length ≤ 64 ∧ (∀ x ∈ L, wfI x) ∧ wfI s ∧ Below w.heap.size w w' := by
  have HC := Lib.hid (cu_start (cap := cap) (T := 98) hb hn)
  clear hb
  go_enter Try.func20, Try.ntmps20
  go_wp2_with fail
  refine (drawnClutter_c w.heap.size 0 (by omega) _ HC.out).mono ?_
  rintro e w1 ⟨a1, c1, L, rfl, hi, hl, hwf, hW⟩
  have HI := Lib.hid hi
  have HF := Lib.hid hwf
  have HW := Lib.hid hW
  clear hi hwf hW
  go_wp2_with fail
  refine (colours_c w.heap.size 66 (by omega) _ HW.out.cu).mono ?_
  rintro e w2 ⟨x, rfl, hx, hW2⟩
  go_wp2_with fail
  go_ret2
  exact ⟨a1, c1, L, x, rfl, HI.out w2 hW2.ch, hl, HF.out, hx, (HW.out.trans hW2).start⟩
end Go.Proofs.Ytmilpahggceemaa
