/- Contract of the reference's l5Next. -/
import Derived.Test.YtldogbahbjompaaKdSteps2
set_option linter.unusedVariables false
set_option linter.unusedSimpArgs false
namespace Go.Proofs.Ytldogbahbjompaa
open Go.RowKit Go.KD
attribute [local go_sem] later_cell later_frozen
set_option maxRecDepth 100000 in
set_option maxHeartbeats 8000000 in
theorem l5Next_c (v : Value) (m : Mz) (n : Nat) (w : World) (hm : MzAt w v m) (ok : MzOk m) (hin : InM m n) :
    Calls Try.prog 118 #[v, .int .i64 n] w fun e w' => ∃ u, e = .returned u ∧ w'.ownsRow w.heap.size 3 1 u (mem (nexN m n)).length (ints (mem (nexN m n))) ∧ Below w.heap.size w w' := by
  have hM := hm
  obtain ⟨⟨ad, cd, ak, ck, rfl, hd, hk'⟩, nd, nk⟩ := hM
  obtain ⟨i0, ji, jz0, jz1, jz2⟩ := info_parts infoI
  have hn := hin.lt ok
  obtain ⟨sn, hsn⟩ := Int.eq_ofNat_of_zero_le (show 0 ≤ m.size by have := ok.s1; omega)
  have hs12 : sn ≤ 12 := by have := ok.s2; omega
  have hnk : m.keys.length = sn := by have := ok.nk; omega
  have HKN : Hid (keyN m n = keysL m (memK n sn)) := by show _ = _; unfold keyN; rw [memK_all (s := sn) (by omega) fun i hi => by have := hin i hi; omega]
  have HNX : Hid (mem (nexN m n) = memK (nexN m n) sn) := by show _ = _; rw [memK_all (s := sn) (by omega) fun i hi => by have := nexN_size ok hn hi; omega]
  have HNB : Hid (∀ y, (nexN m n).testBit y = true ↔ n.testBit y = false ∧ ∃ x : Nat, n.testBit x = true ∧ opnB m x y (keyN m n) = true) := nexN_bit ok hn
  have HIN := Lib.hid hin
  have HKL := Lib.hid (keysL_lt ok)
  have HKF : Hid (∀ k, k < m.keys.length → 0 ≤ m.keys[k]! ∧ m.keys[k]! < 64) := fun k => key_facts ok
  have OK := Lib.hid ok; clear ok hin
  have HSN := Lib.hid hsn
  have HNK := Lib.hid hnk
  clear hsn hnk
  go_enter Try.func118, Try.ntmps118
  go_wp2
  go_loop [6, 7] (fun s i => ∃ k : Nat, k ≤ sn ∧ i = .int .i64 k ∧ s = .int .i64 (keysL m (memK n k))) (fun _ i => sn - (intOf i).toNat)
  case atStart => exact ⟨0, Nat.zero_le _, rfl, rfl⟩
  case round =>
    obtain ⟨k, hk, rfl, rfl⟩ := hrel
    have hk0 : (0 : Int) ≤ (k : Int) := by omega
    have hk1 : (k : Int) ≤ 63 := by omega
    by_cases hlt : k < sn
    · have hlt' : (k : Int) < m.size := by have := HSN.out; omega
      obtain ⟨y, HY, ey⟩ := shr_at n k
      have hy : y < 1099511627776 := by
        have := HY.out; rw [Nat.shiftRight_eq_div_pow] at *; have := Nat.div_le_self n (2 ^ k); omega
      have HA := Lib.hid (and1 hy)
      have HBB := Lib.hid (bit_shr n k)
      clear hy
      cases hbit : n.testBit k
      · have ea : bits .and .i64 (y : Int) 1 = 0 := by rw [HA.out, HY.out, HBB.out, hbit]; rfl
        have HBI := Lib.hid hbit; clear hbit
        go_wp2
        go_round
        case rel => exact ⟨k + 1, by omega, by go_num, by rw [keysL_no HBI.out]⟩
        case measure => simp [intOf]; omega
      · have ea : bits .and .i64 (y : Int) 1 = 1 := by rw [HA.out, HY.out, HBB.out, hbit]; rfl
        have HBI := Lib.hid hbit; clear hbit
        obtain ⟨b2, off2, kv, rfl, HKV, hbs2, e1⟩ := hk'.at k (by have := HNK.out; omega)
        have hkv := HKF.out k (by have := HNK.out; omega)
        rw [HKV.out] at hkv
        obtain ⟨kn, rfl⟩ := Int.eq_ofNat_of_zero_le hkv.1
        have HS : Hid (keysL m (memK n (k + 1)) = keysL m (memK n k) ||| kn) := by show _ = _; rw [keysL_yes HBI.out, HKV.out]; rfl
        have hs := HKL.out (memK n k)
        obtain ⟨sN, hsN⟩ : ∃ sN, sN = keysL m (memK n k) := ⟨_, rfl⟩
        rw [← hsN] at hs HS ⊢
        clear hsN
        have eo : bits .or .i64 (sN : Int) (kn : Int) = ((sN ||| kn : Nat) : Int) := i64_or sN kn (by omega) (by omega)
        have hkl : (k : Int) < (m.keys.length : Int) := by have := HNK.out; omega
        go_wp2
        go_round
        case rel => exact ⟨k + 1, by omega, by go_num, by rw [HS.out]⟩
        case measure => simp [intOf]; omega
    · obtain rfl : k = sn := by omega
      have hnlt : ¬ ((k : Int) < m.size) := by have := HSN.out; omega
      have HS := HKL.out (memK n k)
      rw [← HKN.out] at HS ⊢
      obtain ⟨S, hS⟩ : ∃ S, S = keyN m n := ⟨_, rfl⟩
      rw [← hS] at HS HNB ⊢
      obtain ⟨X, hX⟩ : ∃ X, X = nexN m n := ⟨_, rfl⟩
      rw [← hX] at HNB
      have HXX := Lib.hid hX
      clear hX hS HKN
      go_wp2
      go_loopw [5, 8] (fun u y wr => ∃ j : Nat, j ≤ k ∧ y = .int .i64 j ∧ Below (w.heap.size + 1) (w.alloc (.cells #[.int .i64 m.size, .slice ad m.doors.length cd, .slice ak m.keys.length ck] 29)) wr ∧ Hid (wr.ownsRow (w.heap.size + 1) 3 1 u (memK X j).length (ints (memK X j)))) (fun _ y _ => k - (intOf y).toNat)
      case atStart => exact ⟨0, Nat.zero_le _, rfl, (Below.refl _ _).alloc (by simp) _, by have := World.ownsRow_lit (base := w.heap.size + 1) (e := 3) (size := 1) (w.alloc (.cells #[.int .i64 m.size, .slice ad m.doors.length cd, .slice ak m.keys.length ck] 29)) #[] 0 (by simp) (by unfold maxLen; omega) rfl; simp at this; exact this⟩
      case round =>
        obtain ⟨wo, rfl⟩ : ∃ wo : World, wo = wr := ⟨_, rfl⟩
        obtain ⟨j, hj, rfl, hb, HO⟩ := hrel
        have HBo := Lib.hid hb
        obtain ⟨q0, q1, q2, z1⟩ := box3 hb (by omega)
        have hj0 : (0 : Int) ≤ (j : Int) := by omega
        have hj1 : (j : Int) ≤ 63 := by omega
        clear hb
        by_cases hjl : j < k
        · have hjl' : (j : Int) < m.size := by have := HSN.out; omega
          obtain ⟨yj, HYJ, eyj⟩ := shr_at n j
          have hyj : yj < 1099511627776 := by
            have := HYJ.out; rw [Nat.shiftRight_eq_div_pow] at *; have := Nat.div_le_self n (2 ^ j); omega
          have HAJ := Lib.hid (and1 hyj)
          have HBJ := Lib.hid (bit_shr n j)
          clear hyj
          go_wp2
          go_loopw [5, 9] (fun u x wr => ∃ i : Nat, i ≤ k ∧ x = .int .i64 i ∧ (n.testBit j = true → i = 0) ∧ Below (w.heap.size + 1) (w.alloc (.cells #[.int .i64 m.size, .slice ad m.doors.length cd, .slice ak m.keys.length ck] 29)) wr ∧ Hid (wr.ownsRow (w.heap.size + 1) 3 1 u (memK X j).length (ints (memK X j))) ∧ Hid (∀ t, t < i → ¬ (n.testBit t = true ∧ opnB m t j S = true))) (fun _ x _ => k - (intOf x).toNat)
          case atStart => exact ⟨0, Nat.zero_le _, rfl, fun _ => rfl, HBo.out, HO, fun t ht => absurd ht (Nat.not_lt_zero t)⟩
          case round =>
            obtain ⟨wo2, rfl⟩ : ∃ wo2 : World, wo2 = wr := ⟨_, rfl⟩
            obtain ⟨i, hi, rfl, hi0, hb2, HO2, HT⟩ := hrel
            have HBi := Lib.hid hb2
            have HBw : Hid (Below w.heap.size w wo2) := below_box hb2 (by omega)
            have HI0 := Lib.hid hi0
            obtain ⟨r0, r1, r2, z2⟩ := box3 hb2 (by omega)
            clear hb2 hi0
            have hi0 : (0 : Int) ≤ (i : Int) := by omega
            have hi1 : (i : Int) ≤ 63 := by omega
            by_cases hil : i < k
            · have hil' : (i : Int) < m.size := by have := HSN.out; omega
              cases hbj : n.testBit j
              · have ea : bits .and .i64 (yj : Int) 1 = 0 := by rw [HAJ.out, HYJ.out, HBJ.out, hbj]; rfl
                have HBIJ := Lib.hid hbj; clear hbj
                obtain ⟨yi, HYI, eyi⟩ := shr_at n i
                have hyi : yi < 1099511627776 := by
                  have := HYI.out; rw [Nat.shiftRight_eq_div_pow] at *; have := Nat.div_le_self n (2 ^ i); omega
                have HAI := Lib.hid (and1 hyi)
                have HBI := Lib.hid (bit_shr n i)
                clear hyi
                cases hbi : n.testBit i
                · have eb : bits .and .i64 (yi : Int) 1 = 0 := by rw [HAI.out, HYI.out, HBI.out, hbi]; rfl
                  have HBII := Lib.hid hbi; clear hbi
                  go_wp2
                  go_roundw
                  case rel => exact ⟨i + 1, by omega, by go_num, fun h => Bool.noConfusion h, HBi.out, HO2, hid_step HT (by rw [HBII.out]; simp)⟩
                  case measure => simp [intOf]; omega
                · have eb : bits .and .i64 (yi : Int) 1 = 1 := by rw [HAI.out, HYI.out, HBI.out, hbi]; rfl
                  have HBII := Lib.hid hbi; clear hbi
                  cases ho : opnB m i j S
                  · go_wp2_with (go_at_call 139; refine (l2Open_c _ m _ _ _ _ (hm.later HBw.out) OK.out (by omega)).mono ?_; rintro e w3 ⟨rfl, hb3⟩; rw [ho]; have HB3 := Lib.hid hb3; clear hb3)
                    go_roundw
                    case rel => exact ⟨i + 1, by omega, by go_num, fun h => Bool.noConfusion h, HBi.out.trans (HB3.out.mono (by omega)), own_below HO2.out HB3.out, hid_step HT (by rw [ho]; simp)⟩
                    case measure => simp [intOf]; omega
                  · have HXJ : Hid (X.testBit j = true) := (HNB.out j).2 ⟨HBIJ.out, i, HBII.out, ho⟩
                    have hml := memK_len X j
                    go_wp2_with (first | (go_at_call 139; refine (l2Open_c _ m _ _ _ _ (hm.later HBw.out) OK.out (by omega)).mono ?_; rintro e w3 ⟨rfl, hb3⟩; rw [ho]; have HB3 : Hid (Below (w.heap.size + 1) (w.alloc (.cells #[.int .i64 m.size, .slice ad m.doors.length cd, .slice ak m.keys.length ck] 29)) w3) := HBi.out.trans (hb3.mono (by omega)); have HO3 : Hid (w3.ownsRow (w.heap.size + 1) 3 1 _ (memK X j).length (ints (memK X j))) := own_below HO2.out hb3; clear hb3) | (at_builtin; refine wpList_append_own _ rfl _ _ 23 rfl (w.heap.size + 1) 3 i0 (.int .i64 0) 1 8 Try.underlying23 ji jz0 jz1 jz2 rfl (by decide) _ _ _ rfl (HO3.out.alloc _) ⟨w3.heap.size, 0, none⟩ 1 1 [.int .i64 j] rfl rfl ?_ ?_ ?_ ?_ ?_ ?_; (exact cell_one_new _ _ _); (simp [Value.oneCell']); (unfold maxLen; omega); omega; (have := HB3.out.size; simp at this ⊢; omega); intro v' w4 hown' hgrow _))
                    go_roundw
                    case rel => exact ⟨j + 1, by omega, by go_num, (HB3.out.alloc (by have := HB3.out.size; simp at this; omega) _).grown hgrow (by have := HB3.out.size; simp at this ⊢; omega) (fun g hg => own_block_lo HO3.out hg), by rw [memK_yes HXJ.out, ints_snoc, List.length_append]; exact hown'⟩
                    case measure => simp [intOf]; omega
              · have ea : bits .and .i64 (yj : Int) 1 = 1 := by rw [HAJ.out, HYJ.out, HBJ.out, hbj]; rfl
                have HXJ : Hid (X.testBit j = false) := by
                  show _ = _
                  rw [Bool.eq_false_iff, ne_eq, HNB.out j]
                  rintro ⟨h, _⟩
                  rw [hbj] at h; cases h
                clear hbj
                go_wp2
                go_roundw
                case rel => exact ⟨j + 1, by omega, by go_num, HBi.out, by rw [memK_no HXJ.out]; exact HO2⟩
                case measure => simp [intOf]; omega
            · obtain rfl : i = k := by omega
              have HXJ : Hid (X.testBit j = false) := by
                show _ = _
                rw [Bool.eq_false_iff, ne_eq, HNB.out j]
                rintro ⟨_, x, hx, ho⟩
                have := HIN.out x hx
                have := HSN.out
                exact HT.out x (by omega) ⟨hx, ho⟩
              go_wp2
              go_roundw
              case rel => exact ⟨j + 1, by omega, by go_num, HBi.out, by rw [memK_no HXJ.out]; exact HO2⟩
              case measure => simp [intOf]; omega
        · obtain rfl : j = k := by omega
          have HNX' : Hid (mem (nexN m n) = memK X j) := by show _ = _; rw [HNX.out, HXX.out]
          obtain ⟨aM, cM, rfl⟩ := own_slice HO.out
          go_wp2
          go_ret
          exact ⟨_, rfl, by rw [HNX'.out]; exact (Own.mono (Own.of HO.out) (by omega) (Nat.le_refl _)).row, below_box HBo.out (by omega)⟩
end Go.Proofs.Ytldogbahbjompaa
