/- The program's entry sets and rows in order: impl.entrySets, slices.Compare, impl.listed. -/
import Derived.Test.YtldogbahbjompaaKdSets0
import Derived.Test.YtldogbahbjompaaKdOrd5
import Derived.Test.YtldogbahbjompaaKdTab
import Derived.Test.YtldogbahbjompaaKdThose
import Derived.Deep.DeepCutAuto
import Derived.Deep.AppendLies
set_option linter.unusedVariables false
set_option linter.unusedSimpArgs false
namespace Go.KD
open Go.RowKit
theorem half_all {m : Mz} (ok : MzOk m) : ∃ h : Nat, h = 2 ^ (m.size.toNat - 1) ∧ allN m = 2 * h - 1 ∧ 1 ≤ h ∧ h ≤ 2048 := by
  have h1 := ok.s1
  have h2 := ok.s2
  refine ⟨_, rfl, ?_, Nat.one_le_two_pow, Nat.pow_le_pow_right (by omega) (show m.size.toNat - 1 ≤ 11 by omega)⟩
  unfold allN
  have : 2 ^ m.size.toNat = 2 * 2 ^ (m.size.toNat - 1) := by rw [← Nat.pow_succ']; congr 1; omega
  rw [this]
theorem in_half {m : Mz} {h k : Nat} (ok : MzOk m) (e : h = 2 ^ (m.size.toNat - 1)) (hk : k < h) : InM m (2 * k + 1) := by
  have h1 := ok.s1
  intro i hi
  have h2 : 2 ^ m.size.toNat = 2 * 2 ^ (m.size.toNat - 1) := by rw [← Nat.pow_succ']; congr 1; omega
  have := bit_lt (n := m.size.toNat) (by omega : 2 * k + 1 < 2 ^ m.size.toNat) hi
  omega
theorem cmpR_same {a b : List Int} : ∀ k, k ≤ a.length → k ≤ b.length → a.take k = b.take k → cmpR a b = cmpR (a.drop k) (b.drop k)
  | 0, _, _, _ => rfl
  | k + 1, h1, h2, h => by
    cases a with
    | nil => simp at h1
    | cons x a =>
      cases b with
      | nil => simp at h2
      | cons y b =>
        simp only [List.take_succ_cons, List.cons.injEq] at h
        obtain ⟨rfl, h⟩ := h
        have ih := cmpR_same (a := a) (b := b) k (by simpa using h1) (by simpa using h2) h
        simp only [cmpR, List.drop_succ_cons]
        rw [if_pos (cmpI_zero.2 rfl), ih]
theorem cmpR_longer {a b : List Int} {k : Nat} (h1 : k < a.length) (h2 : b.length = k) (h : a.take k = b.take k) : cmpR a b = 1 := by
  rw [cmpR_same k (by omega) (by omega) h]
  have e1 : b.drop k = [] := List.drop_eq_nil_of_le (by omega)
  rw [e1, List.drop_eq_getElem_cons h1]; rfl
theorem cmpR_at {a b : List Int} {k : Nat} (h1 : k < a.length) (h2 : k < b.length) (h : a.take k = b.take k) (hne : cmpI a[k]! b[k]! ≠ 0) : cmpR a b = cmpI a[k]! b[k]! := by
  rw [cmpR_same k (by omega) (by omega) h, List.drop_eq_getElem_cons h1, List.drop_eq_getElem_cons h2]
  simp only [cmpR]
  rw [← getElem!_pos a k h1, ← getElem!_pos b k h2, if_neg hne]
theorem cmpR_end {a b : List Int} (h1 : a.length ≤ b.length) (h : a.take a.length = b.take a.length) : cmpR a b = if a.length < b.length then -1 else 0 := by
  rw [cmpR_same a.length (Nat.le_refl _) h1 h, List.drop_length]
  split
  · rename_i h2
    rw [List.drop_eq_getElem_cons h2]; rfl
  · rename_i h2
    have e1 : b.drop a.length = [] := List.drop_eq_nil_of_le (by omega)
    rw [e1]; rfl
theorem cmpLR_or (a b : List Int) : cmpLR a b = orI [cmpI a.length b.length, cmpR a b] := rfl
end Go.KD
namespace Go.Proofs.Ytldogbahbjompaa
open Go.RowKit Go.KD
attribute [local go_sem] later_cell later_frozen
set_option maxRecDepth 100000 in
set_option maxHeartbeats 4000000 in
theorem entrySets_c (v : Value) (m : Mz) (w : World) (hm : MzAt w v m) (ok : MzOk m) :
    Calls Try.prog 83 #[v] w fun e w' => ∃ u, e = .returned u ∧ w'.ownsRow w.heap.size 3 1 u (entL m).length (ints (natsI (entL m))) ∧ Below w.heap.size w w' := by
  have hM := hm
  obtain ⟨⟨ad, cd, ak, ck, rfl, hd, hk'⟩, nd, nk⟩ := hM
  obtain ⟨i0, ji, jz0, jz1, jz2⟩ := info_parts infoI
  obtain ⟨h, hh, hall, hh1, hh2⟩ := half_all ok
  have HEN : Hid (entL m = entK m h) := by show _ = _; unfold entL; rw [hh]
  have HIN : Hid (∀ k, k < h → InM m (2 * k + 1)) := fun k hk => in_half ok hh hk
  have OK := Lib.hid ok
  have HM := Lib.hid hm
  have HAL := Lib.hid hall
  rw [HEN.out]
  have HE0 : Hid (((w.alloc (.cells #[.int .i64 m.size, .slice ad m.doors.length cd, .slice ak m.keys.length ck] 29)).alloc (.cells #[] 3)).ownsRow (w.heap.size + 1) 3 1 (.slice (some ⟨w.heap.size + 1, 0, none⟩) 0 0) (entK m 0).length (ints (natsI (entK m 0)))) := by
    have h := World.ownsRow_lit (base := w.heap.size + 1) (e := 3) (size := 1) (w.alloc (.cells #[.int .i64 m.size, .slice ad m.doors.length cd, .slice ak m.keys.length ck] 29)) #[] 0 (by simp) (by unfold maxLen; omega) rfl
    rw [World.size_alloc] at h
    exact h
  clear hm ok hd hk' hh hall
  go_enter Try.func83, Try.ntmps83
  go_wp2
  go_loopw [3, 4] (fun ov nv wr => ∃ k : Nat, nv = .int .i64 ((2 * k + 1 : Nat) : Int) ∧ k ≤ h ∧ Hid (wr.ownsRow (w.heap.size + 1) 3 1 ov (entK m k).length (ints (natsI (entK m k)))) ∧ Hid (Below (w.heap.size + 1) (w.alloc (.cells #[.int .i64 m.size, .slice ad m.doors.length cd, .slice ak m.keys.length ck] 29)) wr)) (fun _ nv _ => 5000 - (intOf nv).toNat)
  case atStart => exact ⟨0, rfl, Nat.zero_le _, HE0, (Below.refl _ _).alloc (by simp) _⟩
  case round =>
    clear HE0
    obtain ⟨wo, rfl⟩ : ∃ wo : World, wo = wr := ⟨_, rfl⟩
    obtain ⟨k, rfl, hk, HO, HBo⟩ := hrel
    have HB : Hid (Below w.heap.size w wo) := below_box HBo.out (by omega)
    obtain ⟨q0, q1, q2, z1⟩ := box3 HBo.out (by omega)
    obtain ⟨aO, cO, rfl⟩ := own_slice HO.out
    have hll := entK_len m k
    obtain ⟨nn, hnn⟩ : ∃ nn, nn = 2 * k + 1 := ⟨_, rfl⟩
    rw [← hnn]
    obtain ⟨al, hal⟩ : ∃ al, al = allN m := ⟨_, rfl⟩
    have hal2 : al = 2 * h - 1 := by rw [hal]; exact HAL.out
    by_cases hlt : k < h
    · have hle : (nn : Int) ≤ (al : Int) := by omega
      have hnn2 : nn ≤ 4095 := by omega
      obtain ⟨lv, hlv⟩ : ∃ lv, lv = largN m nn := ⟨_, rfl⟩
      have HINK := Lib.hid (HIN.out k hlt)
      rw [← hnn] at HINK
      have HALL : Hid (∀ Wl, Below w.heap.size w Wl → Calls Try.prog 126 #[.agg #[.int .i64 m.size, .slice ad m.doors.length cd, .slice ak m.keys.length ck]] Wl fun e w' => e = .returned (.int .i64 (al : Int)) ∧ Below Wl.heap.size Wl w') := by
        rw [hal]; exact fun Wl hW => allNodes_c _ m Wl (HM.out.later hW) OK.out
      have HLG : Hid (∀ Wl, Below w.heap.size w Wl → Calls Try.prog 127 #[.agg #[.int .i64 m.size, .slice ad m.doors.length cd, .slice ak m.keys.length ck], .int .i64 (nn : Int)] Wl fun e w' => e = .returned (.int .i64 (lv : Int)) ∧ Below Wl.heap.size Wl w') := by
        rw [hlv]; exact fun Wl hW => largest_c _ m nn Wl (HM.out.later hW) OK.out HINK.out
      by_cases hq : lv = nn
      · have HN : Hid (entK m (k + 1) = entK m k ++ [2 * k + 1]) := entK_yes (by rw [← hnn, ← hlv]; exact hq)
        subst hq
        have hbb : ((lv : Int) == (lv : Int)) = true := by simp
        have HNN := Lib.hid hnn
        clear hlv hal hnn hal2
        go_wp2_with fail
        refine (HALL.out _ HB.out).mono ?_
        rintro e w2 ⟨rfl, hb2⟩
        have HB2 : Hid (Below w.heap.size w w2) := below_then HB.out hb2
        have HX2 : Hid (Below (w.heap.size + 1) (w.alloc (.cells #[.int .i64 m.size, .slice ad m.doors.length cd, .slice ak m.keys.length ck] 29)) w2) := HBo.out.trans (hb2.mono (by omega))
        have HO2 : Hid (w2.ownsRow (w.heap.size + 1) 3 1 (.slice aO (entK m k).length cO) (entK m k).length (ints (natsI (entK m k)))) := own_below HO.out hb2
        clear hb2 q0 q1 q2
        obtain ⟨q0, q1, q2, z2⟩ := box3 HX2.out (by omega)
        go_wp2_with fail
        refine (HLG.out _ HB2.out).mono ?_
        rintro e w3 ⟨rfl, hb3⟩
        have HX3 : Hid (Below (w.heap.size + 1) (w.alloc (.cells #[.int .i64 m.size, .slice ad m.doors.length cd, .slice ak m.keys.length ck] 29)) w3) := HX2.out.trans (hb3.mono (by omega))
        have HO3 : Hid (w3.ownsRow (w.heap.size + 1) 3 1 (.slice aO (entK m k).length cO) (entK m k).length (ints (natsI (entK m k)))) := own_below HO2.out hb3
        have hz3 := HX3.out.size
        simp only [World.size_alloc] at hz3
        clear hb3 q0 q1 q2
        go_wp2_with (at_builtin; refine wpList_append_own _ rfl _ _ 23 rfl (w.heap.size + 1) 3 i0 (.int .i64 0) 1 8 Try.underlying23 ji jz0 jz1 jz2 rfl (by decide) _ _ _ rfl (HO3.out.alloc _) ⟨w3.heap.size, 0, none⟩ 1 1 [.int .i64 (lv : Int)] rfl rfl ?_ ?_ ?_ ?_ ?_ ?_; (exact cell_one_new _ _ _); (simp [Value.oneCell']); (unfold maxLen; omega); omega; (simp; omega); intro v' w4 hown' hgrow _)
        go_roundw
        case rel => exact ⟨k + 1, by rw [HNN.out]; go_num, by omega, by rw [HN.out, natsI_snoc, ints_snoc, List.length_append, ← HNN.out]; exact hown', (HX3.out.alloc (by omega) _).grown hgrow (by simp; omega) (fun g hg => own_block_lo HO3.out hg)⟩
        case measure => simp [intOf]; omega
      · have HN : Hid (entK m (k + 1) = entK m k) := entK_no (by rw [← hnn, ← hlv]; exact hq)
        have hbb : ((lv : Int) == (nn : Int)) = false := by simp; omega
        have HNN := Lib.hid hnn
        clear hlv hal hq hnn hal2
        go_wp2_with fail
        refine (HALL.out _ HB.out).mono ?_
        rintro e w2 ⟨rfl, hb2⟩
        have HB2 : Hid (Below w.heap.size w w2) := below_then HB.out hb2
        have HX2 : Hid (Below (w.heap.size + 1) (w.alloc (.cells #[.int .i64 m.size, .slice ad m.doors.length cd, .slice ak m.keys.length ck] 29)) w2) := HBo.out.trans (hb2.mono (by omega))
        have HO2 : Hid (w2.ownsRow (w.heap.size + 1) 3 1 (.slice aO (entK m k).length cO) (entK m k).length (ints (natsI (entK m k)))) := own_below HO.out hb2
        clear hb2 q0 q1 q2
        obtain ⟨q0, q1, q2, z2⟩ := box3 HX2.out (by omega)
        go_wp2_with fail
        refine (HLG.out _ HB2.out).mono ?_
        rintro e w3 ⟨rfl, hb3⟩
        have HX3 : Hid (Below (w.heap.size + 1) (w.alloc (.cells #[.int .i64 m.size, .slice ad m.doors.length cd, .slice ak m.keys.length ck] 29)) w3) := HX2.out.trans (hb3.mono (by omega))
        have HO3 : Hid (w3.ownsRow (w.heap.size + 1) 3 1 (.slice aO (entK m k).length cO) (entK m k).length (ints (natsI (entK m k)))) := own_below HO2.out hb3
        clear hb3 q0 q1 q2
        go_wp2
        go_roundw
        case rel => exact ⟨k + 1, by rw [HNN.out]; go_num, by omega, by rw [HN.out]; exact HO3, HX3⟩
        case measure => simp [intOf]; omega
    · obtain rfl : k = h := by omega
      have hle : decide ((nn : Int) ≤ (al : Int)) = false := by simp; omega
      have hle2 : decide (nn ≤ al) = false := by simp; omega
      have HALL : Hid (∀ Wl, Below w.heap.size w Wl → Calls Try.prog 126 #[.agg #[.int .i64 m.size, .slice ad m.doors.length cd, .slice ak m.keys.length ck]] Wl fun e w' => e = .returned (.int .i64 (al : Int)) ∧ Below Wl.heap.size Wl w') := by
        rw [hal]; exact fun Wl hW => allNodes_c _ m Wl (HM.out.later hW) OK.out
      clear hal hal2 hnn
      go_wp2_with fail
      refine (HALL.out _ HB.out).mono ?_
      rintro e w2 ⟨rfl, hb2⟩
      have HB2 : Hid (Below w.heap.size w w2) := below_then HB.out hb2
      have HO2 : Hid (w2.ownsRow (w.heap.size + 1) 3 1 (.slice aO (entK m k).length cO) (entK m k).length (ints (natsI (entK m k)))) := own_below HO.out hb2
      clear hb2
      go_wp2
      go_ret
      exact ⟨_, rfl, (Own.mono (Own.of HO2.out) (by omega) (Nat.le_refl _)).row, HB2.out⟩
set_option maxHeartbeats 2000000 in
theorem sCompare_c (a b : Option Addr) (ca cb : Nat) (A B : List Int) (w : World) (hA : IC w a A) (hB : IC w b B) (lA : A.length ≤ 1000000) (lB : B.length ≤ 1000000) :
    Calls Try.prog 125 #[.slice a A.length ca, .slice b B.length cb] w fun e w' => e = .returned (.int .i64 (cmpR A B)) ∧ w = w' := by
  have HA := Lib.hid hA
  have HB := Lib.hid hB
  clear hA hB
  go_enter Try.func125, Try.ntmps125
  go_wp2
  go_loop [11] (fun iv => ∃ k : Nat, iv = .int .i64 k ∧ k ≤ A.length ∧ k ≤ B.length ∧ Hid (A.take k = B.take k)) (fun iv => A.length - (intOf iv).toNat)
  case atStart => exact ⟨0, rfl, Nat.zero_le _, Nat.zero_le _, rfl⟩
  case round =>
    obtain ⟨k, rfl, hk, hk2, HT⟩ := hrel
    by_cases hlt : k < A.length
    · have hkI : (k : Int) < (A.length : Int) := by omega
      obtain ⟨b1, o1, x, rfl, HX, hbs1, e1⟩ := HA.out.at k hlt
      by_cases hlt2 : k < B.length
      · have hkB : (k : Int) < (B.length : Int) := by omega
        have hd2 : decide ((B.length : Int) ≤ (k : Int)) = false := by simp; omega
        have hd3 : decide (B.length ≤ k) = false := by simp; omega
        obtain ⟨b2, o2, y, rfl, HY, hbs2, e2⟩ := HB.out.at k hlt2
        obtain ⟨cv, hcv⟩ : ∃ cv, cv = cmpI x y := ⟨_, rfl⟩
        by_cases hz : cv = 0
        · have HN : Hid (A.take (k + 1) = B.take (k + 1)) := take_succ_eq hlt hlt2 HT.out (by rw [HX.out, HY.out]; exact cmpI_zero.1 (by rw [← hcv]; exact hz))
          have HC : Hid (cmpI x y = 0) := by show _ = _; rw [← hcv]; exact hz
          clear hcv hz
          go_wp2_with (go_at_call 116; refine (compare_c _ _ _).mono ?_; rintro e w' ⟨rfl, hw'⟩; rw [hw', HC.out]; clear hw')
          go_round
          case rel => exact ⟨k + 1, by go_num, by omega, by omega, HN⟩
          case measure => simp [intOf]; omega
        · have HR : Hid (cmpR A B = cv) := by show _ = _; rw [cmpR_at hlt hlt2 HT.out (by rw [HX.out, HY.out, ← hcv]; exact hz), HX.out, HY.out, hcv]
          have HC : Hid (cmpI x y = cv) := hcv.symm
          have hzb : (cv != 0) = true := by simpa using hz
          clear hcv hz
          go_wp2_with (go_at_call 116; refine (compare_c _ _ _).mono ?_; rintro e w' ⟨rfl, hw'⟩; rw [hw', HC.out]; clear hw')
          go_ret
          exact ⟨ret_int HR.out.symm, rfl⟩
      · have HR : Hid (cmpR A B = 1) := cmpR_longer hlt (by omega) HT.out
        have hd2 : decide ((B.length : Int) ≤ (k : Int)) = true := by simp; omega
        have hd3 : decide (B.length ≤ k) = true := by simp; omega
        go_wp2
        go_ret
        exact ⟨ret_int HR.out.symm, rfl⟩
    · obtain rfl : k = A.length := by omega
      have HR : Hid (cmpR A B = if A.length < B.length then -1 else 0) := cmpR_end hk2 HT.out
      by_cases hl : A.length < B.length
      · have hlI : (A.length : Int) < (B.length : Int) := by omega
        go_wp2
        go_ret
        exact ⟨ret_int (by rw [HR.out, if_pos hl]), rfl⟩
      · have hlI : decide ((A.length : Int) < (B.length : Int)) = false := by simp; omega
        have hlN : decide (A.length < B.length) = false := by simp; omega
        go_wp2
        go_ret
        exact ⟨ret_int (by rw [HR.out, if_neg hl]), rfl⟩
theorem listedClo_c (a b : Option Addr) (ca cb : Nat) (A B : List Int) (w : World) (hA : IC w a A) (hB : IC w b B) (lA : A.length ≤ 1000000) (lB : B.length ≤ 1000000) :
    Calls Try.prog 124 #[.slice a A.length ca, .slice b B.length cb] w fun e w' => e = .returned (.int .i64 (cmpLR A B)) ∧ w' = w.alloc (.cells #[.int .i64 (cmpI A.length B.length), .int .i64 (cmpR A B)] 3) := by
  have HA := Lib.hid hA
  have HB := Lib.hid hB
  clear hA hB
  go_enter Try.func124, Try.ntmps124
  go_wp2_with (first
    | (go_at_call 116; refine (compare_c _ _ _).mono ?_; rintro e w1 ⟨rfl, hw1⟩; subst hw1)
    | (go_at_call 125; refine (sCompare_c _ _ _ _ A B _ HA.out HB.out lA lB).mono ?_; rintro e w1 ⟨rfl, rfl⟩)
    | (go_at_call 115; refine (or_c _ _ _ [cmpI A.length B.length, cmpR A B] _ rfl (ic_lit _ _ _ _ _ rfl rfl) (by simp)).mono ?_; rintro e w1 ⟨rfl, rfl⟩))
  go_ret
  exact ⟨rfl, rfl⟩
end Go.Proofs.Ytldogbahbjompaa
