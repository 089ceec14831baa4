/- Contract of the reference's l3Rounds. -/
import Derived.Test.YtbjcabphiddjgaaKdEnt
set_option linter.unusedVariables false
set_option linter.unusedSimpArgs false
namespace Go.Proofs.Ytbjcabphiddjgaa
open Go.RowKit Go.KD
attribute [local go_sem] later_cell later_frozen
set_option maxRecDepth 100000 in
set_option maxHeartbeats 8000000 in
theorem l3Rounds_c (v : Value) (m : Mz) (s : Nat) (w : World) (hm : MzAt w v m) (ok : MzOk m) (hs : s < 64) : Calls Try.prog 133 #[v, .int .i64 s] w fun e w' =>
    ∃ u, e = .returned u ∧ ∃ k, w'.ownsRow w.heap.size 3 1 u (k + 1) (ints (setsL m s (k + 1))) ∧ k ≤ gK m s k ∧ gainN m (gK m s k) = gK m s k ∧ (∀ j, j < k → gainN m (gK m s j) ≠ gK m s j) ∧ Below w.heap.size w w' := by
  have hM := hm
  obtain ⟨⟨ad, cd, ak, ck, rfl, hd, hk'⟩, nd, nk⟩ := hM
  obtain ⟨i0, ji, jz0, jz1, jz2⟩ := info_parts infoI
  have HGL := Lib.hid (gK_lt ok hs)
  have HKL := Lib.hid (keysL_lt ok)
  have HS1 : Hid (((0 : Nat) : Int) < m.size) := by have := ok.s1; show _ < _; omega
  have HRI : Hid (∀ t, InM m (reachN m 0 t)) := fun t => reachN_in ok t HS1.out
  have hnk : (m.keys.length : Int) = m.size := ok.nk
  have HNK := Lib.hid hnk; clear hnk
  have OK := Lib.hid ok; clear ok
  have HO0 : Hid (((w.alloc (.cells #[.int .i64 m.size, .slice ad m.doors.length cd, .slice ak m.keys.length ck] 29)).alloc (.cells #[.int .i64 s] 3)).ownsRow (w.heap.size + 1) 3 1 (.slice (some ⟨w.heap.size + 1, 0, none⟩) (0 + 1) 1) (0 + 1) (ints (setsL m s (0 + 1)))) := by
    have := World.ownsRow_lit (base := w.heap.size + 1) (e := 3) (size := 1) (w.alloc (.cells #[.int .i64 m.size, .slice ad m.doors.length cd, .slice ak m.keys.length ck] 29)) #[.int .i64 s] 1 (by simp) (by unfold maxLen; omega) rfl
    simp at this
    exact this
  go_enter Try.func133, Try.ntmps133
  go_wp2
  go_loopw [5] (fun u wr => ∃ k go co : Nat, u = .slice (some ⟨go, 0, none⟩) (k + 1) co ∧ k ≤ gK m s k ∧ Below (w.heap.size + 1) (w.alloc (.cells #[.int .i64 m.size, .slice ad m.doors.length cd, .slice ak m.keys.length ck] 29)) wr ∧ Hid (wr.ownsRow (w.heap.size + 1) 3 1 (.slice (some ⟨go, 0, none⟩) (k + 1) co) (k + 1) (ints (setsL m s (k + 1)))) ∧ Hid (∀ j, j < k → gainN m (gK m s j) ≠ gK m s j)) (fun u _ => 65 - lenV u)
  case atStart => exact ⟨0, w.heap.size + 1, 1, rfl, Nat.zero_le _, (Below.refl _ _).alloc (by simp) _, HO0.out, fun j hj => absurd hj (Nat.not_lt_zero j)⟩
  case round =>
    obtain ⟨wo, rfl⟩ : ∃ wo : World, wo = wr := ⟨_, rfl⟩
    obtain ⟨k, go, co, rfl, hk, hb, HO, HJ⟩ := hrel
    have HBo := Lib.hid hb
    have HB := Lib.hid (below_box hb (by omega))
    obtain ⟨q0, q1, q2, z1⟩ := box3 hb (by omega)
    have hg := HGL.out k
    have hg1 := HGL.out (k + 1)
    have hk64 : k < 64 := by omega
    have e9 := own_intK HO.out k (by omega) (by simp)
    rw [setsL_at (by omega)] at e9
    have HN : Hid (gK m s (k + 1) = gK m s k ||| keysL m (mem (reachN m 0 (gK m s k)))) := rfl
    have HFX : Hid (gainN m (gK m s k) = gK m s (k + 1)) := rfl
    have HSN : Hid (setsL m s (k + 1 + 1) = setsL m s (k + 1) ++ [((gK m s (k + 1) : Nat) : Int)]) := setsL_snoc m s (k + 1)
    obtain ⟨sN, hsN⟩ : ∃ sN, sN = gK m s k := ⟨_, rfl⟩
    obtain ⟨tN, htN⟩ : ∃ tN, tN = gK m s (k + 1) := ⟨_, rfl⟩
    rw [← hsN] at hg hk HN HFX e9
    rw [← htN] at hg1 HN HFX HSN
    have HSE := Lib.hid hsN
    have HTE := Lib.hid htN
    have hk1 : (k : Int) + 1 - 1 = (k : Int) := by omega
    clear hsN htN hb HO0
    go_wp2_with fail
    refine (l2Reach_c _ m 0 sN _ (hm.later HB.out) OK.out HS1.out hg).mono ?_
    rintro e w2 ⟨a2, c2, rfl, hi2, hb2⟩
    have HB2 : Hid (Below (w.heap.size + 1) (w.alloc (.cells #[.int .i64 m.size, .slice ad m.doors.length cd, .slice ak m.keys.length ck] 29)) w2) := HBo.out.trans (hb2.mono (by omega))
    have HO2 := Lib.hid (own_below HO.out hb2)
    clear q0 q1 q2 e9
    obtain ⟨q0, q1, q2, z2⟩ := box3 HB2.out (by omega)
    have HB2w := Lib.hid (below_box HB2.out (by omega))
    have h40 := mem_len40' (reachN m 0 sN)
    have hLm : Hid (∀ k x, k < (mem (reachN m 0 sN)).length → (mem (reachN m 0 sN))[k]! = x → ∃ i : Nat, x = i ∧ (reachN m 0 sN).testBit i = true) := fun k x => mem_at
    have HIN := Lib.hid (HRI.out sN)
    obtain ⟨X, hX⟩ : ∃ X, X = reachN m 0 sN := ⟨_, rfl⟩
    rw [← hX] at hi2 h40 hLm HN HIN ⊢
    have HC2 := Lib.hid hi2
    clear hb2 hi2 hX
    have hkw := hk'.later HB2w.out
    go_wp2
    go_loopw [8, 9] (fun n i wr => ∃ j : Nat, j ≤ (mem X).length ∧ i = .int .i64 j ∧ n = .int .i64 ((sN ||| keysL m ((mem X).take j) : Nat)) ∧ Below w2.heap.size w2 wr) (fun _ i _ => (mem X).length - (intOf i).toNat)
    case atStart => exact ⟨0, Nat.zero_le _, rfl, by simp [keysL], Below.refl _ _⟩
    case round =>
      obtain ⟨wi, rfl⟩ : ∃ wi : World, wi = wr := ⟨_, rfl⟩
      obtain ⟨j, hj, rfl, rfl, hb⟩ := hrel
      have HBi := Lib.hid hb
      have HBx : Hid (Below (w.heap.size + 1) (w.alloc (.cells #[.int .i64 m.size, .slice ad m.doors.length cd, .slice ak m.keys.length ck] 29)) wi) := HB2.out.trans (hb.mono (by omega))
      clear q0 q1 q2
      obtain ⟨q0, q1, q2, z3⟩ := box3 HBx.out (by omega)
      have hs := HKL.out ((mem X).take j)
      by_cases hlt : j < (mem X).length
      · obtain ⟨b, off, x, rfl, HXx, hbs, e0⟩ := (HC2.out.later hb).at j hlt
        obtain ⟨i, rfl, hi⟩ := hLm.out j x hlt HXx.out
        have hik := HIN.out i hi
        have hil : i < m.keys.length := by have := HNK.out; omega
        obtain ⟨b2, off2, y, rfl, HY, hbs2, e1⟩ := (hkw.later hb).at i hil
        have hy := key_facts OK.out hil
        rw [HY.out] at hy
        obtain ⟨yn, rfl⟩ := Int.eq_ofNat_of_zero_le hy.1
        have HS : Hid (keysL m ((mem X).take (j + 1)) = keysL m ((mem X).take j) ||| yn) := by
          show _ = _
          rw [take_snoc hlt, keysL_snoc, HXx.out]
          simp only [Int.toNat_natCast]
          rw [HY.out]; rfl
        obtain ⟨uN, huN⟩ : ∃ uN, uN = keysL m ((mem X).take j) := ⟨_, rfl⟩
        rw [← huN] at hs HS ⊢
        clear huN hb
        have hor : sN ||| uN < 64 := Nat.or_lt_two_pow (n := 6) hg hs
        obtain ⟨vN, hvN⟩ : ∃ vN, vN = sN ||| uN := ⟨_, rfl⟩
        rw [← hvN] at hor ⊢
        have HV := Lib.hid hvN; clear hvN
        have ea : bits .or .i64 (vN : Int) (yn : Int) = ((vN ||| yn : Nat) : Int) := i64_or vN yn (by omega) (by omega)
        have hil' : (i : Int) < (m.keys.length : Int) := by omega
        have hjl : (j : Int) < ((mem X).length : Int) := by omega
        clear hi
        go_wp2
        go_quiet (fail)
        go_wp2
        go_roundw
        case rel => exact ⟨j + 1, by omega, by go_num, by rw [HS.out, HV.out, Nat.or_assoc], by first | exact HBi.out | exact HBi.out.drew | exact below_drewN HBi.out _⟩
        case measure => simp [intOf]; omega
      · obtain rfl : j = (mem X).length := by omega
        have HN' : Hid (sN ||| keysL m ((mem X).take (mem X).length) = tN) := by show _ = _; rw [List.take_length, HN.out]
        rw [HN'.out]
        have HOi := Lib.hid (own_below HO2.out HBi.out)
        have hzi : w.heap.size + 1 ≤ wi.heap.size := by omega
        clear hb
        cases he : decide (tN = sN)
        · have hne : tN ≠ sN := by simpa using he
          have hlt2 : sN < tN := by
            have h1 : sN ≤ sN ||| keysL m (mem X) := Nat.left_le_or
            have := HN.out; omega
          have hq : ¬ ((tN : Int) = (sN : Int)) := by omega
          have HLT := Lib.hid hlt2
          have HNE := Lib.hid hne
          clear he hne hlt2
          go_wp2_with (at_builtin; refine wpList_append_lies _ rfl _ _ 23 rfl (w.heap.size + 1) 3 i0 (.int .i64 0) 1 8 Try.underlying23 ji jz0 jz1 jz2 rfl (by decide) (.slice (some ⟨go, 0, none⟩) (k + 1) co) _ _ rfl (HOi.out.alloc _) ⟨wi.heap.size, 0, none⟩ 1 1 [.int .i64 tN] rfl rfl ?_ ?_ (by omega) ?_ ?_ ?_ (wi.heap.size + 1) ?_ ?_; (exact cell_one_new _ _ _); (simp [Value.oneCell']); (unfold maxLen; omega); omega; (simp; omega); (simp); intro g5 c5 w5 hown5 hgrow5 hat5 hlt5)
          go_roundw
          case rel => exact ⟨k + 1, g5, c5, rfl, by have := HLT.out; have := HTE.out; omega, (HBx.out.alloc hzi _).grown hgrow5 (by simp; omega) (fun g hg => own_block_lo HOi.out hg), by rw [HSN.out, ints_snoc]; exact hown5, hid_step HJ (by rw [← HSE.out, HFX.out]; exact HNE.out)⟩
          case measure => simp [lenV]; omega
        · have hte : tN = sN := by simpa using he
          have HFE : Hid (gainN m sN = sN) := by show _ = _; rw [HFX.out, hte]
          rw [hte]
          clear he hte
          go_wp2
          go_ret
          exact ⟨_, rfl, k, (Own.mono (Own.of HOi.out) (by omega) (Nat.le_refl _)).row, by rw [← HSE.out]; exact hk, by rw [← HSE.out]; exact HFE.out, HJ.out, below_box HBx.out (by omega)⟩
end Go.Proofs.Ytbjcabphiddjgaa
