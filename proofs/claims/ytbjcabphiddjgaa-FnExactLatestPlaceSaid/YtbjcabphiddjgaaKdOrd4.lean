/- Contracts of ascending, l1Rising, l5Code, l5Nodes, l5List, LargestEntrySet. -/
import Derived.Test.YtbjcabphiddjgaaKdOrd3
set_option linter.unusedVariables false
set_option linter.unusedSimpArgs false
namespace Go.KD
open Go.RowKit
noncomputable def ascP (m : Mz) (l : List Int) : Nat × Bool := if risesB m l then (codeL l, true) else (0, false)
noncomputable def pLargestEntrySet (m : Mz) (l : List Int) : List Int × Bool := if mazeB m && risesB m l && (codeL l).testBit 0 then (mem (largN m (codeL l)), true) else ([], false)
theorem pLargestEntrySet_len (m : Mz) (l : List Int) : (pLargestEntrySet m l).1.length ≤ 1000000 := by
  unfold pLargestEntrySet
  split
  · have := mem_len40 (largN m (codeL l)); simp only; omega
  · simp
theorem codeK_in {m : Mz} {l : List Int} (k : Nat) (hk : k ≤ l.length) (h : ∀ j, j < k → riseB m l j = true) : InM m (codeK l k) := by
  intro i hi
  rw [codeK_bit l i k hk, List.any_eq_true] at hi
  obtain ⟨x, hx, h1⟩ := hi
  obtain ⟨j, hj, rfl⟩ := List.mem_iff_getElem.1 hx
  simp only [List.length_take] at hj
  have := inB_true.1 (riseB_in (h j (by omega)))
  rw [getElem!_pos l j (by omega)] at this
  rw [List.getElem_take] at h1
  have : l[j].toNat = i := by simpa using h1
  omega
theorem codeL_has {m : Mz} {l : List Int} (h : risesB m l = true) : hasI l 0 = (codeL l).testBit 0 := (codeL_zero h).symm
theorem riseB_def {m : Mz} {l : List Int} {k : Nat} {y : Int} (h : l[k]! = y) : riseB m l k = (inB y 0 (m.size - 1) && (k == 0 || decide (l[k-1]! < y))) := by unfold riseB; rw [h]
end Go.KD
namespace Go.Proofs.Ytbjcabphiddjgaa
open Go.RowKit Go.KD
attribute [local go_sem] later_cell later_frozen
set_option maxRecDepth 100000 in
set_option maxHeartbeats 4000000 in
theorem ascending_c (v : Value) (m : Mz) (a : Option Addr) (cap : Nat) (l : List Int) (w : World) (hm : MzAt w v m) (ok : MzOk m) (hA : IC w a l) (hl : l.length ≤ 1048576) :
    Calls Try.prog 68 #[v, .slice a l.length cap] w fun e w' => e = .returned (.tuple #[.int .i64 (ascP m l).1, .bool (ascP m l).2]) ∧ Below w.heap.size w w' := by
  have hM := hm
  obtain ⟨⟨ad, cd, ak, ck, rfl, hd, hk'⟩, nd, nk⟩ := hM
  have hsz1 : 1 ≤ m.size := ok.s1
  have hsz2 : m.size ≤ 12 := ok.s2
  have OK := Lib.hid ok; clear ok
  go_enter Try.func68, Try.ntmps68
  go_wp2
  go_loop [6, 11] (fun c i => ∃ k : Nat, k ≤ l.length ∧ i = .int .i64 k ∧ c = .int .i64 (codeK l k) ∧ Hid (∀ j, j < k → riseB m l j = true)) (fun _ i => l.length - (intOf i).toNat)
  case atStart => exact ⟨0, by omega, rfl, rfl, fun j hj => absurd hj (Nat.not_lt_zero j)⟩
  case round =>
    obtain ⟨k, hkl, rfl, rfl, HJ⟩ := hrel
    have hn := codeK_lt OK.out k hkl fun j hj => riseB_in (HJ.out j hj)
    by_cases hlt : k < l.length
    · obtain ⟨b, off, y, rfl, HY, hbs2, e3⟩ := hA.at k hlt
      have hkk : (k : Int) < (l.length : Int) := by omega
      have HRB := Lib.hid (riseB_def (m := m) HY.out)
      have HST := Lib.hid (codeK_step hlt)
      rw [HY.out] at HST
      obtain ⟨n, hN⟩ : ∃ n, n = codeK l k := ⟨_, rfl⟩
      rw [← hN] at hn HST ⊢
      clear hN
      cases p1 : inB y 0 (m.size - 1)
      · have HD : Hid (ascP m l = (0, false)) := by show _ = _; unfold ascP; rw [risesB_no hlt (by rw [HRB.out, p1]; rfl)]; rfl
        go_wp2_with (go_at_call 93; refine (within_c _ _ _ _).mono ?_; rintro e w2 ⟨rfl, rfl⟩; rw [p1])
        go_ret2
        exact ⟨ret_tup2 (by rw [HD.out] <;> rfl), by (repeat (first | exact Below.refl _ _ | apply Below.drew | apply below_drewN | (refine Below.setCell ?_ (by first | omega | (simp; done) | (simp; omega) | (dsimp only; omega)) _) | (refine Below.alloc ?_ (by first | omega | (simp; done) | (simp; omega) | (dsimp only; omega)) _)))⟩
      · have hy := inB_true.1 p1
        obtain ⟨yn, rfl⟩ := Int.eq_ofNat_of_zero_le hy.1
        have hy12 : yn < 12 := by omega
        obtain ⟨p, HP, ep, hp⟩ := shl_at yn hy12
        have eo : bits .or .i64 (n : Int) (p : Int) = ((n ||| p : Nat) : Int) := i64_or n p (by omega) (by omega)
        have hy2 : (yn : Int) < 12 := by omega
        rcases Nat.eq_zero_or_pos k with hk0 | hk0
        · subst hk0
          rw [Nat.add_zero] at e3
          have HR : Hid (riseB m l 0 = true) := by show _ = _; rw [HRB.out, p1]; rfl
          go_wp2_with (go_at_call 93; refine (within_c _ _ _ _).mono ?_; rintro e w2 ⟨rfl, rfl⟩; rw [p1])
          go_round
          case rel => exact ⟨0 + 1, by omega, by go_num, by rw [HST.out, setN, HP.out]; rfl, hid_step HJ HR.out⟩
          case measure => simp [intOf]; omega
        · obtain ⟨b', off', z, hb', HZ, hbs3, e4⟩ := hA.at (k - 1) (by omega)
          cases hb'
          obtain ⟨k1, hk1⟩ : ∃ k1, k1 = k - 1 := ⟨_, rfl⟩
          have hkk1 : (k : Int) - 1 = (k1 : Int) := by omega
          have hk10 : (0 : Int) ≤ (k1 : Int) := by omega
          have hk11 : (k1 : Int) < (l.length : Int) := by omega
          have hkp : (0 : Int) < (k : Int) := by omega
          rw [← hk1] at e4
          cases p2 : decide ((yn : Int) ≤ z)
          · have HR : Hid (riseB m l k = true) := by
              show _ = _
              rw [HRB.out, p1, HZ.out]
              have : z < (yn : Int) := by simpa using p2
              simp [this]
            clear hk1
            go_wp2_with (go_at_call 93; refine (within_c _ _ _ _).mono ?_; rintro e w2 ⟨rfl, rfl⟩; rw [p1])
            go_round
            case rel => exact ⟨k + 1, by omega, by go_num, by rw [HST.out, setN, HP.out]; rfl, hid_step HJ HR.out⟩
            case measure => simp [intOf]; omega
          · have HD : Hid (ascP m l = (0, false)) := by
              show _ = _
              unfold ascP
              rw [risesB_no hlt (by
                rw [HRB.out, p1, HZ.out]
                have h1 : ¬ (z < (yn : Int)) := by simpa using p2
                have h2 : (k == 0) = false := by simp; omega
                simp [h1, h2])]
              rfl
            clear hk1
            go_wp2_with (go_at_call 93; refine (within_c _ _ _ _).mono ?_; rintro e w2 ⟨rfl, rfl⟩; rw [p1])
            go_ret2
            exact ⟨ret_tup2 (by rw [HD.out] <;> rfl), by (repeat (first | exact Below.refl _ _ | apply Below.drew | apply below_drewN | (refine Below.setCell ?_ (by first | omega | (simp; done) | (simp; omega) | (dsimp only; omega)) _) | (refine Below.alloc ?_ (by first | omega | (simp; done) | (simp; omega) | (dsimp only; omega)) _)))⟩
    · obtain rfl : k = l.length := by omega
      have HD : Hid (ascP m l = (codeK l l.length, true)) := by show _ = _; unfold ascP; rw [risesB_true.2 HJ.out]; rfl
      go_wp2
      go_ret2
      exact ⟨ret_tup2 (by rw [HD.out] <;> rfl), by (repeat (first | exact Below.refl _ _ | apply Below.drew | apply below_drewN | (refine Below.setCell ?_ (by first | omega | (simp; done) | (simp; omega) | (dsimp only; omega)) _) | (refine Below.alloc ?_ (by first | omega | (simp; done) | (simp; omega) | (dsimp only; omega)) _)))⟩
set_option maxHeartbeats 4000000 in
theorem l1Rising_c (m : Mz) (a : Option Addr) (cap : Nat) (l : List Int) (w : World) (hA : IC w a l) (hl : l.length ≤ 1048576) :
    Calls Try.prog 102 #[.slice a l.length cap, .int .i64 0, .int .i64 (m.size - 1)] w fun e w' => e = .returned (.bool (risesB m l)) ∧ Below w.heap.size w w' := by
  go_enter Try.func102, Try.ntmps102
  go_wp2
  go_loopw [7] (fun i wr => ∃ k : Nat, k ≤ l.length ∧ i = .int .i64 k ∧ Below w.heap.size w wr ∧ Hid (∀ j, j < k → riseB m l j = true)) (fun i _ => l.length - (intOf i).toNat)
  case atStart => exact ⟨0, by omega, rfl, Below.refl _ _, fun j hj => absurd hj (Nat.not_lt_zero j)⟩
  case round =>
    obtain ⟨wo, rfl⟩ : ∃ wo : World, wo = wr := ⟨_, rfl⟩
    obtain ⟨k, hkl, rfl, hb, HJ⟩ := hrel
    have HB := Lib.hid hb
    clear hb
    by_cases hlt : k < l.length
    · obtain ⟨b, off, y, rfl, HY, hbs2, e3⟩ := (hA.later HB.out).at k hlt
      have hkk : (k : Int) < (l.length : Int) := by omega
      have HRB := Lib.hid (riseB_def (m := m) HY.out)
      cases p1 : inB y 0 (m.size - 1)
      · have HD : Hid (risesB m l = false) := risesB_no hlt (by rw [HRB.out, p1]; rfl)
        go_wp2
        refine wp_region_later (wo.heap.size) (by kernel_rfl) (by kernel_rfl) ?_
        repeat (first | go_big_quiet_skip | (go_big_quiet_want; go_big_quiet_op; (first | go_big_quiet_on | (apply Exists.intro; refine ⟨fun W => ?_, ?_⟩; (first | (go_at_call 90; exact Calls.later_same (l1In_c _ _ _ _))); go_big_quiet_on))))
        refine wpQuiet_nil ?_; rintro _ ⟨⟨w9, hb9⟩, rfl⟩; obtain ⟨hc9, hf9, hz9⟩ := bcell3 hb9
        go_wp2
        go_ret
        exact ⟨ret_bool HD.out.symm, HB.out.trans (hb9.mono HB.out.size)⟩
      · rcases Nat.eq_zero_or_pos k with hk0 | hk0
        · subst hk0
          rw [Nat.add_zero] at e3
          have HR : Hid (riseB m l 0 = true) := by show _ = _; rw [HRB.out, p1]; rfl
          go_wp2
          refine wp_region_later (wo.heap.size) (by kernel_rfl) (by kernel_rfl) ?_
          repeat (first | go_big_quiet_skip | (go_big_quiet_want; go_big_quiet_op; (first | go_big_quiet_on | (apply Exists.intro; refine ⟨fun W => ?_, ?_⟩; (first | (go_at_call 90; exact Calls.later_same (l1In_c _ _ _ _))); go_big_quiet_on))))
          refine wpQuiet_nil ?_; rintro _ ⟨⟨w9, hb9⟩, rfl⟩; obtain ⟨hc9, hf9, hz9⟩ := bcell3 hb9
          go_wp2
          go_roundw
          case rel => exact ⟨0 + 1, by omega, by go_num, HB.out.trans (hb9.mono HB.out.size), hid_step HJ HR.out⟩
          case measure => simp [intOf]; omega
        · obtain ⟨b', off', z, hb', HZ, hbs3, e4⟩ := (hA.later HB.out).at (k - 1) (by omega)
          cases hb'
          obtain ⟨k1, hk1⟩ : ∃ k1, k1 = k - 1 := ⟨_, rfl⟩
          have hkk1 : (k : Int) - 1 = (k1 : Int) := by omega
          have hk10 : (0 : Int) ≤ (k1 : Int) := by omega
          have hk11 : (k1 : Int) < (l.length : Int) := by omega
          have hkp : (0 : Int) < (k : Int) := by omega
          rw [← hk1] at e4
          cases p2 : decide (z < y)
          · have HD : Hid (risesB m l = false) := risesB_no hlt (by
              rw [HRB.out, p1, HZ.out, p2]
              have h2 : (k == 0) = false := by simp; omega
              simp [h2])
            have p3 : y ≤ z := by have : ¬ (z < y) := by simpa using p2
                                  omega
            clear hk1 p2
            go_wp2
            refine wp_region_later (wo.heap.size) (by kernel_rfl) (by kernel_rfl) ?_
            repeat (first | go_big_quiet_skip | (go_big_quiet_want; go_big_quiet_op; (first | go_big_quiet_on | (apply Exists.intro; refine ⟨fun W => ?_, ?_⟩; (first | (go_at_call 90; exact Calls.later_same (l1In_c _ _ _ _))); go_big_quiet_on))))
            refine wpQuiet_nil ?_; rintro _ ⟨⟨w9, hb9⟩, rfl⟩; obtain ⟨hc9, hf9, hz9⟩ := bcell3 hb9
            go_wp2
            go_ret
            exact ⟨ret_bool HD.out.symm, HB.out.trans (hb9.mono HB.out.size)⟩
          · have HR : Hid (riseB m l k = true) := by show _ = _; rw [HRB.out, p1, HZ.out, p2]; simp
            have p3 : ¬ (y ≤ z) := by have : z < y := by simpa using p2
                                      omega
            clear hk1 p2
            go_wp2
            refine wp_region_later (wo.heap.size) (by kernel_rfl) (by kernel_rfl) ?_
            repeat (first | go_big_quiet_skip | (go_big_quiet_want; go_big_quiet_op; (first | go_big_quiet_on | (apply Exists.intro; refine ⟨fun W => ?_, ?_⟩; (first | (go_at_call 90; exact Calls.later_same (l1In_c _ _ _ _))); go_big_quiet_on))))
            refine wpQuiet_nil ?_; rintro _ ⟨⟨w9, hb9⟩, rfl⟩; obtain ⟨hc9, hf9, hz9⟩ := bcell3 hb9
            go_wp2
            go_roundw
            case rel => exact ⟨k + 1, by omega, by go_num, HB.out.trans (hb9.mono HB.out.size), hid_step HJ HR.out⟩
            case measure => simp [intOf]; omega
    · go_wp2
      go_ret
      exact ⟨ret_bool (risesB_true.2 (fun j hj => HJ.out j (by omega))).symm, HB.out⟩
set_option maxHeartbeats 1000000 in
theorem l5Code_c (m : Mz) (ok : MzOk m) (a : Option Addr) (cap : Nat) (l : List Int) (w : World) (hr : risesB m l = true) (hA : IC w a l) (hl : l.length ≤ 1048576) :
    Calls Try.prog 67 #[.slice a l.length cap] w fun e w' => e = .returned (.int .i64 (codeL l)) ∧ w = w' := by
  have HJ := Lib.hid (risesB_true.1 hr); clear hr
  have hsz2 : m.size ≤ 12 := ok.s2
  have OK := Lib.hid ok; clear ok
  go_enter Try.func67, Try.ntmps67
  go_wp2
  go_loop [3, 4] (fun c i => ∃ k : Nat, k ≤ l.length ∧ i = .int .i64 k ∧ c = .int .i64 (codeK l k)) (fun _ i => l.length - (intOf i).toNat)
  case atStart => exact ⟨0, by omega, rfl, rfl⟩
  case round =>
    obtain ⟨k, hkl, rfl, rfl⟩ := hrel
    have hn := codeK_lt OK.out k hkl fun j hj => riseB_in (HJ.out j (by omega))
    by_cases hlt : k < l.length
    · obtain ⟨b, off, y, rfl, HY, hbs2, e3⟩ := hA.at k hlt
      have hkk : (k : Int) < (l.length : Int) := by omega
      have HST := Lib.hid (codeK_step hlt)
      have p1 := riseB_in (HJ.out k hlt)
      rw [HY.out] at HST p1
      obtain ⟨n, hN⟩ : ∃ n, n = codeK l k := ⟨_, rfl⟩
      rw [← hN] at hn HST ⊢
      clear hN
      have hy := inB_true.1 p1
      obtain ⟨yn, rfl⟩ := Int.eq_ofNat_of_zero_le hy.1
      have hy12 : yn < 12 := by omega
      obtain ⟨p, HP, ep, hp⟩ := shl_at yn hy12
      have eo : bits .or .i64 (n : Int) (p : Int) = ((n ||| p : Nat) : Int) := i64_or n p (by omega) (by omega)
      have hy2 : (yn : Int) < 12 := by omega
      go_wp2
      go_round
      case rel => exact ⟨k + 1, by omega, by go_num, by rw [HST.out, setN, HP.out]; rfl⟩
      case measure => simp [intOf]; omega
    · obtain rfl : k = l.length := by omega
      go_wp2
      go_ret
      exact ⟨rfl, rfl⟩
set_option maxRecDepth 100000 in
set_option maxHeartbeats 1000000 in
theorem l5Nodes_c (x : Nat) (hx : x < 4096) (w : World) : Calls Try.prog 65 #[.int .i64 x] w fun e w' =>
    ∃ v, e = .returned v ∧ w'.ownsRow w.heap.size 3 1 v (mem x).length (ints (mem x)) ∧ Below w.heap.size w w' := by
  obtain ⟨i0, hi, hz0, hz1, hz2⟩ := info_parts infoI
  have HM : Hid (memK x 12 = mem x) := memK_all (s := 12) (by omega) fun i hi => bit_lt (n := 12) hx hi
  go_enter Try.func65, Try.ntmps65
  go_wp2
  go_loopw [3, 4] (fun v c wr => ∃ k : Nat, k ≤ 12 ∧ c = .int .i64 k ∧ Below w.heap.size w wr ∧ Hid (wr.ownsRow w.heap.size 3 1 v (memK x k).length (ints (memK x k)))) (fun _ c _ => 12 - (intOf c).toNat)
  case atStart => exact ⟨0, by omega, rfl, (Below.refl _ _).alloc (Nat.le_refl _) _, World.ownsRow_lit _ _ _ (Nat.le_refl _) (by unfold maxLen; omega) (by rfl)⟩
  case round =>
    obtain ⟨k, hk, rfl, hb, HO⟩ := hrel
    have hk0 : (0 : Int) ≤ (k : Int) := by omega
    have hk1 : (k : Int) ≤ 63 := by omega
    by_cases h6 : k < 12
    · obtain ⟨y, HY, ey⟩ := shr_at x k
      have hy : y < 1099511627776 := by
        have := HY.out; rw [Nat.shiftRight_eq_div_pow] at *; have := Nat.div_le_self x (2 ^ k); omega
      have HA := Lib.hid (and1 hy)
      have HBB := Lib.hid (bit_shr x k)
      clear hy
      cases hbit : x.testBit k
      · have ea : bits .and .i64 (y : Int) 1 = 0 := by rw [HA.out, HY.out, HBB.out, hbit]; rfl
        have HBI := Lib.hid hbit; clear hbit
        go_wp2
        go_roundw
        case rel => exact ⟨k + 1, by omega, by go_num, hb, by rw [memK_no HBI.out]; exact HO⟩
        case measure => simp [intOf]; omega
      · have ea : bits .and .i64 (y : Int) 1 = 1 := by rw [HA.out, HY.out, HBB.out, hbit]; rfl
        have HBI := Lib.hid hbit; clear hbit
        have hz := hb.size
        have hlen := memK_len x k
        go_wp2_with (at_builtin; refine wpList_append_own _ rfl _ _ 23 rfl w.heap.size 3 i0 (.int .i64 0) 1 8 Try.underlying23 hi hz0 hz1 hz2 rfl (by decide) _ _ _ rfl (HO.out.alloc _) ⟨wr.heap.size, 0, none⟩ 1 1 [.int .i64 k] rfl rfl ?_ ?_ ?_ ?_ ?_ ?_; (exact cell_one_new _ _ _); (simp [Value.oneCell']); (unfold maxLen; omega); omega; (simp; omega); intro v' w1 hown' hgrow _)
        go_roundw
        case rel => exact ⟨k + 1, by omega, by go_num, (hb.alloc hz _).grown hgrow (by simp; omega) (fun g hg => own_block_lo HO.out hg), by rw [memK_yes HBI.out, ints_snoc, List.length_append]; exact hown'⟩
        case measure => simp [intOf]; omega
    · obtain rfl : k = 12 := by omega
      go_wp2
      go_ret
      exact ⟨_, rfl, by rw [← HM.out]; exact HO.out, hb⟩
theorem l5List_c (v : Value) (m : Mz) (a : Option Addr) (cap : Nat) (l : List Int) (w : World) (hm : MzAt w v m) (hA : IC w a l) (hl : l.length ≤ 1048576) : Calls Try.prog 63 #[v, .slice a l.length cap] w fun e w' => e = .returned (.bool (mazeB m && risesB m l)) ∧ Below w.heap.size w w' := by
  have hM := hm
  obtain ⟨⟨ad, cd, ak, ck, rfl, hd, hk'⟩, nd, nk⟩ := hM
  cases b1 : mazeB m
  · go_enter Try.func63, Try.ntmps63
    go_wp2_with fail
    refine (l2Maze_c _ m _ (hm.later (by (repeat (first | exact Below.refl _ _ | apply Below.drew | apply below_drewN | (refine Below.setCell ?_ (by first | omega | (simp; done) | (simp; omega) | (dsimp only; omega)) _) | (refine Below.alloc ?_ (by first | omega | (simp; done) | (simp; omega) | (dsimp only; omega)) _)))))).mono ?_
    rintro e w1 ⟨rfl, hb1⟩
    rw [b1]
    go_wp2_with fail
    go_ret
    exact ⟨ret_bool (by simp), below_then (by (repeat (first | exact Below.refl _ _ | apply Below.drew | apply below_drewN | (refine Below.setCell ?_ (by first | omega | (simp; done) | (simp; omega) | (dsimp only; omega)) _) | (refine Below.alloc ?_ (by first | omega | (simp; done) | (simp; omega) | (dsimp only; omega)) _)))) hb1⟩
  · have hs1 : 1 ≤ m.size := (mazeB_true.1 b1).s1
    have hs2 : m.size ≤ 12 := (mazeB_true.1 b1).s2
    go_enter Try.func63, Try.ntmps63
    go_wp2_with fail
    refine (l2Maze_c _ m _ (hm.later (by (repeat (first | exact Below.refl _ _ | apply Below.drew | apply below_drewN | (refine Below.setCell ?_ (by first | omega | (simp; done) | (simp; omega) | (dsimp only; omega)) _) | (refine Below.alloc ?_ (by first | omega | (simp; done) | (simp; omega) | (dsimp only; omega)) _)))))).mono ?_
    rintro e w1 ⟨rfl, hb1⟩
    have HB1 : Hid (Below w.heap.size w w1) := below_then (by (repeat (first | exact Below.refl _ _ | apply Below.drew | apply below_drewN | (refine Below.setCell ?_ (by first | omega | (simp; done) | (simp; omega) | (dsimp only; omega)) _) | (refine Below.alloc ?_ (by first | omega | (simp; done) | (simp; omega) | (dsimp only; omega)) _)))) hb1
    obtain ⟨q0, q1, q2, z1⟩ := box3 hb1 (by simp)
    clear hb1
    rw [b1]
    go_wp2_with fail
    refine (l1Rising_c m _ _ l _ (hA.later HB1.out) hl).mono ?_
    rintro e w2 ⟨rfl, hb2⟩
    go_wp2_with fail
    go_ret
    exact ⟨ret_bool (by simp), below_then HB1.out hb2⟩
set_option maxHeartbeats 2000000 in
theorem specLargestEntrySet_c (v : Value) (m : Mz) (a : Option Addr) (cap : Nat) (l : List Int) (w : World) (R : List Int) (b : Bool) (hp : pLargestEntrySet m l = (R, b)) (hm : MzAt w v m) (hA : IC w a l) (hl : l.length ≤ 1048576) (wl : ∀ y ∈ l, wfI y) : Calls Try.prog 27 #[v, .slice a l.length cap] w fun e w' => ∃ aw cw, e = .returned (.tuple #[.slice aw R.length cw, .bool b]) ∧ IC w' aw R ∧ Below w.heap.size w w' := by
  have hM := hm
  obtain ⟨⟨ad, cd, ak, ck, rfl, hd, hk'⟩, nd, nk⟩ := hM
  cases b1 : (mazeB m && risesB m l)
  · simp only [pLargestEntrySet, b1, Bool.false_and] at hp
    cases hp
    go_enter Try.func27, Try.ntmps27
    go_wp2_with fail
    refine (l5List_c _ m _ _ l _ (hm.later (by (repeat (first | exact Below.refl _ _ | apply Below.drew | apply below_drewN | (refine Below.setCell ?_ (by first | omega | (simp; done) | (simp; omega) | (dsimp only; omega)) _) | (refine Below.alloc ?_ (by first | omega | (simp; done) | (simp; omega) | (dsimp only; omega)) _))))) (hA.later (by (repeat (first | exact Below.refl _ _ | apply Below.drew | apply below_drewN | (refine Below.setCell ?_ (by first | omega | (simp; done) | (simp; omega) | (dsimp only; omega)) _) | (refine Below.alloc ?_ (by first | omega | (simp; done) | (simp; omega) | (dsimp only; omega)) _))))) hl).mono ?_
    rintro e w1 ⟨rfl, hb1⟩
    have HB1 : Hid (Below w.heap.size w w1) := below_then (by (repeat (first | exact Below.refl _ _ | apply Below.drew | apply below_drewN | (refine Below.setCell ?_ (by first | omega | (simp; done) | (simp; omega) | (dsimp only; omega)) _) | (refine Below.alloc ?_ (by first | omega | (simp; done) | (simp; omega) | (dsimp only; omega)) _)))) hb1
    rw [b1]
    go_wp2_with fail
    go_ret2
    exact ⟨_, _, rfl, fun k hk => absurd hk (Nat.not_lt_zero k), HB1.out.alloc HB1.out.size _⟩
  · have b1' := b1
    rw [Bool.and_eq_true] at b1'
    have OK := Lib.hid (mazeB_true.1 b1'.1)
    have HR := Lib.hid b1'.2
    have HH := Lib.hid (codeL_has b1'.2)
    clear b1'
    cases b2 : (codeL l).testBit 0
    · simp only [pLargestEntrySet, b1, b2, Bool.and_false] at hp
      cases hp
      go_enter Try.func27, Try.ntmps27
      go_wp2_with fail
      refine (l5List_c _ m _ _ l _ (hm.later (by (repeat (first | exact Below.refl _ _ | apply Below.drew | apply below_drewN | (refine Below.setCell ?_ (by first | omega | (simp; done) | (simp; omega) | (dsimp only; omega)) _) | (refine Below.alloc ?_ (by first | omega | (simp; done) | (simp; omega) | (dsimp only; omega)) _))))) (hA.later (by (repeat (first | exact Below.refl _ _ | apply Below.drew | apply below_drewN | (refine Below.setCell ?_ (by first | omega | (simp; done) | (simp; omega) | (dsimp only; omega)) _) | (refine Below.alloc ?_ (by first | omega | (simp; done) | (simp; omega) | (dsimp only; omega)) _))))) hl).mono ?_
      rintro e w1 ⟨rfl, hb1⟩
      have HB1 : Hid (Below w.heap.size w w1) := below_then (by (repeat (first | exact Below.refl _ _ | apply Below.drew | apply below_drewN | (refine Below.setCell ?_ (by first | omega | (simp; done) | (simp; omega) | (dsimp only; omega)) _) | (refine Below.alloc ?_ (by first | omega | (simp; done) | (simp; omega) | (dsimp only; omega)) _)))) hb1
      rw [b1]
      go_wp2_with fail
      refine (l1Has_c _ _ _ l _ _ rfl (hA.later HB1.out) hl).mono ?_
      rintro e w2 ⟨rfl, rfl⟩
      rw [HH.out, b2]
      go_wp2_with fail
      go_ret2
      exact ⟨_, _, rfl, fun k hk => absurd hk (Nat.not_lt_zero k), HB1.out.alloc HB1.out.size _⟩
    · simp only [pLargestEntrySet, b1, b2, Bool.and_self, if_true] at hp
      cases hp
      have hin : InM m (codeL l) := codeK_in _ (Nat.le_refl _) (risesB_true.1 HR.out)
      have hlg := itL_lt OK.out (codeL l) 4096
      have HLG : Hid (largN m (codeL l) < 4096) := itL_lt OK.out (codeL l) _
      clear hlg
      have B2 := Lib.hid b2; clear b2
      have HIN := Lib.hid hin; clear hin
      go_enter Try.func27, Try.ntmps27
      go_wp2_with fail
      refine (l5List_c _ m _ _ l _ (hm.later (by (repeat (first | exact Below.refl _ _ | apply Below.drew | apply below_drewN | (refine Below.setCell ?_ (by first | omega | (simp; done) | (simp; omega) | (dsimp only; omega)) _) | (refine Below.alloc ?_ (by first | omega | (simp; done) | (simp; omega) | (dsimp only; omega)) _))))) (hA.later (by (repeat (first | exact Below.refl _ _ | apply Below.drew | apply below_drewN | (refine Below.setCell ?_ (by first | omega | (simp; done) | (simp; omega) | (dsimp only; omega)) _) | (refine Below.alloc ?_ (by first | omega | (simp; done) | (simp; omega) | (dsimp only; omega)) _))))) hl).mono ?_
      rintro e w1 ⟨rfl, hb1⟩
      have HB1 : Hid (Below w.heap.size w w1) := below_then (by (repeat (first | exact Below.refl _ _ | apply Below.drew | apply below_drewN | (refine Below.setCell ?_ (by first | omega | (simp; done) | (simp; omega) | (dsimp only; omega)) _) | (refine Below.alloc ?_ (by first | omega | (simp; done) | (simp; omega) | (dsimp only; omega)) _)))) hb1
      obtain ⟨q0, q1, q2, z1⟩ := box3 hb1 (by simp)
      clear hb1
      rw [b1]
      go_wp2_with fail
      refine (l1Has_c _ _ _ l _ _ rfl (hA.later HB1.out) hl).mono ?_
      rintro e w2 ⟨rfl, rfl⟩
      rw [HH.out, B2.out]
      obtain ⟨wo, rfl⟩ : ∃ wo : World, wo = w1 := ⟨_, rfl⟩
      go_wp2_with fail
      go_region_held3 (fun W => W.cell? ⟨w.heap.size, 0, none⟩ = some (.int .i64 m.size) ∧ W.cell? ⟨w.heap.size, 1, none⟩ = some (.slice ad m.doors.length cd) ∧ W.cell? ⟨w.heap.size, 2, none⟩ = some (.slice ak m.keys.length ck))
        (first | exact ⟨q0, q1, q2⟩ | exact ⟨r0, r1, r2⟩ | exact ⟨s0, s1, s2⟩)
        (first | (go_at_call 67; refine (l5Code_c m OK.out _ _ l _ HR.out (hA.later HB1.out.drew) hl).mono ?_; rintro e w3 ⟨rfl, rfl⟩) | (go_at_call 66; refine (l5Largest_c _ m (codeL l) _ (hm.later HB1.out.drew) OK.out HIN.out B2.out).mono ?_; rintro e w4 ⟨rfl, hb4⟩; have HB4 := Lib.hid (below_then HB1.out.drew hb4); have r0 : w4.cell? ⟨w.heap.size, 0, none⟩ = some (.int .i64 m.size) := (hb4.cell (p := ⟨w.heap.size, 0, none⟩) (show w.heap.size < wo.heap.size by assumption)).trans q0; have r1 : w4.cell? ⟨w.heap.size, 1, none⟩ = some (.slice ad m.doors.length cd) := (hb4.cell (p := ⟨w.heap.size, 1, none⟩) (show w.heap.size < wo.heap.size by assumption)).trans q1; have r2 : w4.cell? ⟨w.heap.size, 2, none⟩ = some (.slice ak m.keys.length ck) := (hb4.cell (p := ⟨w.heap.size, 2, none⟩) (show w.heap.size < wo.heap.size by assumption)).trans q2; have z4 : w.heap.size < w4.heap.size := Nat.lt_of_lt_of_le (show w.heap.size < wo.heap.size by assumption) hb4.size) | (go_at_call 65; refine (l5Nodes_c (largN m (codeL l)) HLG.out _).mono ?_; rintro e w5 ⟨u, rfl, hou, hb5⟩; obtain ⟨au, cu, rfl, -, hi⟩ := (Own.of hou).ic; have HI := Lib.hid hi; clear hi hou; have s0 : w5.cell? ⟨w.heap.size, 0, none⟩ = some (.int .i64 m.size) := (hb5.cell (p := ⟨w.heap.size, 0, none⟩) (show w.heap.size < w4.heap.size by assumption)).trans r0; have s1 : w5.cell? ⟨w.heap.size, 1, none⟩ = some (.slice ad m.doors.length cd) := (hb5.cell (p := ⟨w.heap.size, 1, none⟩) (show w.heap.size < w4.heap.size by assumption)).trans r1; have s2 : w5.cell? ⟨w.heap.size, 2, none⟩ = some (.slice ak m.keys.length ck) := (hb5.cell (p := ⟨w.heap.size, 2, none⟩) (show w.heap.size < w4.heap.size by assumption)).trans r2))
      go_wp2
      go_ret2
      exact ⟨_, _, rfl, HI.out, below_then HB4.out hb5⟩
set_option maxHeartbeats 2000000 in
theorem implLargestEntrySet_c (v : Value) (m : Mz) (a : Option Addr) (cap : Nat) (l : List Int) (w : World) (R : List Int) (b : Bool) (hp : pLargestEntrySet m l = (R, b)) (hm : MzAt w v m) (hA : IC w a l) (hl : l.length ≤ 1048576) (wl : ∀ y ∈ l, wfI y) : Calls Try.prog 28 #[v, .slice a l.length cap] w fun e w' => ∃ u, e = .returned (.tuple #[u, .bool b]) ∧ w'.ownsRow w.heap.size 3 1 u R.length (ints R) ∧ Below w.heap.size w w' := by
  have hM := hm
  obtain ⟨⟨ad, cd, ak, ck, rfl, hd, hk'⟩, nd, nk⟩ := hM
  cases b1 : mazeB m
  · simp only [pLargestEntrySet, b1, Bool.false_and] at hp
    cases hp
    go_enter Try.func28, Try.ntmps28
    go_wp2_with fail
    refine (isMaze_c _ m _ (hm.later (by (repeat (first | exact Below.refl _ _ | apply Below.drew | apply below_drewN | (refine Below.setCell ?_ (by first | omega | (simp; done) | (simp; omega) | (dsimp only; omega)) _) | (refine Below.alloc ?_ (by first | omega | (simp; done) | (simp; omega) | (dsimp only; omega)) _)))))).mono ?_
    rintro e w1 ⟨rfl, hb1⟩
    have HB1 : Hid (Below w.heap.size w w1) := below_then (by (repeat (first | exact Below.refl _ _ | apply Below.drew | apply below_drewN | (refine Below.setCell ?_ (by first | omega | (simp; done) | (simp; omega) | (dsimp only; omega)) _) | (refine Below.alloc ?_ (by first | omega | (simp; done) | (simp; omega) | (dsimp only; omega)) _)))) hb1
    rw [b1]
    go_wp2_with fail
    go_ret2
    exact ⟨_, rfl, ⟨rfl, .inl ⟨rfl, rfl⟩⟩, HB1.out⟩
  · have OK := Lib.hid (mazeB_true.1 b1)
    cases b2 : risesB m l
    · simp only [pLargestEntrySet, b1, b2, Bool.and_false, Bool.false_and] at hp
      cases hp
      have HQ : Hid (ascP m l = (0, false)) := by show _ = _; unfold ascP; rw [b2]; rfl
      go_enter Try.func28, Try.ntmps28
      go_wp2_with fail
      refine (isMaze_c _ m _ (hm.later (by (repeat (first | exact Below.refl _ _ | apply Below.drew | apply below_drewN | (refine Below.setCell ?_ (by first | omega | (simp; done) | (simp; omega) | (dsimp only; omega)) _) | (refine Below.alloc ?_ (by first | omega | (simp; done) | (simp; omega) | (dsimp only; omega)) _)))))).mono ?_
      rintro e w1 ⟨rfl, hb1⟩
      have HB1 : Hid (Below w.heap.size w w1) := below_then (by (repeat (first | exact Below.refl _ _ | apply Below.drew | apply below_drewN | (refine Below.setCell ?_ (by first | omega | (simp; done) | (simp; omega) | (dsimp only; omega)) _) | (refine Below.alloc ?_ (by first | omega | (simp; done) | (simp; omega) | (dsimp only; omega)) _)))) hb1
      obtain ⟨q0, q1, q2, z1⟩ := box3 hb1 (by simp)
      clear hb1
      rw [b1]
      go_wp2_with fail
      refine (ascending_c _ m _ _ l _ (hm.later HB1.out) OK.out (hA.later HB1.out) hl).mono ?_
      rintro e w2 ⟨rfl, hb2⟩
      have HB2 := Lib.hid (below_then HB1.out hb2)
      rw [HQ.out]
      go_wp2_with fail
      go_ret2
      exact ⟨_, rfl, ⟨rfl, .inl ⟨rfl, rfl⟩⟩, HB2.out⟩
    · have HQ : Hid (ascP m l = (codeL l, true)) := by show _ = _; unfold ascP; rw [b2]; rfl
      have hin : InM m (codeL l) := codeK_in _ (Nat.le_refl _) (risesB_true.1 b2)
      have hcl := hin.lt OK.out
      have HIN := Lib.hid hin; clear hin
      obtain ⟨n, hn⟩ : ∃ n, n = codeL l := ⟨_, rfl⟩
      have hn1 : n &&& 1 = if n.testBit 0 then 1 else 0 := by rw [Nat.and_one_is_mod, Nat.testBit_zero]; by_cases h : n % 2 = 1 <;> simp [h]; omega
      have HLG : Hid (largN m n < 4096) := itL_lt OK.out n _
      rw [← hn] at HQ HIN hcl
      have e1 : bits .and .i64 (n : Int) 1 = ((n &&& 1 : Nat) : Int) := i64_and n 1 (by omega) (by omega)
      rw [hn1] at e1
      simp only [pLargestEntrySet, b1, b2, ← hn, Bool.and_self, Bool.true_and] at hp
      clear hn hn1
      cases b3 : n.testBit 0
      · rw [b3] at hp e1
        cases hp
        clear b3
        go_enter Try.func28, Try.ntmps28
        go_wp2_with fail
        refine (isMaze_c _ m _ (hm.later (by (repeat (first | exact Below.refl _ _ | apply Below.drew | apply below_drewN | (refine Below.setCell ?_ (by first | omega | (simp; done) | (simp; omega) | (dsimp only; omega)) _) | (refine Below.alloc ?_ (by first | omega | (simp; done) | (simp; omega) | (dsimp only; omega)) _)))))).mono ?_
        rintro e w1 ⟨rfl, hb1⟩
        have HB1 : Hid (Below w.heap.size w w1) := below_then (by (repeat (first | exact Below.refl _ _ | apply Below.drew | apply below_drewN | (refine Below.setCell ?_ (by first | omega | (simp; done) | (simp; omega) | (dsimp only; omega)) _) | (refine Below.alloc ?_ (by first | omega | (simp; done) | (simp; omega) | (dsimp only; omega)) _)))) hb1
        obtain ⟨q0, q1, q2, z1⟩ := box3 hb1 (by simp)
        clear hb1
        rw [b1]
        go_wp2_with fail
        refine (ascending_c _ m _ _ l _ (hm.later HB1.out) OK.out (hA.later HB1.out) hl).mono ?_
        rintro e w2 ⟨rfl, hb2⟩
        have HB2 := Lib.hid (below_then HB1.out hb2)
        rw [HQ.out]
        simp only [Bool.false_eq_true, if_false] at e1
        go_wp2_with fail
        go_ret2
        exact ⟨_, rfl, ⟨rfl, .inl ⟨rfl, rfl⟩⟩, HB2.out⟩
      · rw [b3] at hp e1
        simp only [if_true] at e1 hp
        cases hp
        clear b3
        go_enter Try.func28, Try.ntmps28
        go_wp2_with fail
        refine (isMaze_c _ m _ (hm.later (by (repeat (first | exact Below.refl _ _ | apply Below.drew | apply below_drewN | (refine Below.setCell ?_ (by first | omega | (simp; done) | (simp; omega) | (dsimp only; omega)) _) | (refine Below.alloc ?_ (by first | omega | (simp; done) | (simp; omega) | (dsimp only; omega)) _)))))).mono ?_
        rintro e w1 ⟨rfl, hb1⟩
        have HB1 : Hid (Below w.heap.size w w1) := below_then (by (repeat (first | exact Below.refl _ _ | apply Below.drew | apply below_drewN | (refine Below.setCell ?_ (by first | omega | (simp; done) | (simp; omega) | (dsimp only; omega)) _) | (refine Below.alloc ?_ (by first | omega | (simp; done) | (simp; omega) | (dsimp only; omega)) _)))) hb1
        have HX1 := Lib.hid hb1
        obtain ⟨q0, q1, q2, z1⟩ := box3 hb1 (by simp)
        clear hb1
        rw [b1]
        go_wp2_with fail
        refine (ascending_c _ m _ _ l _ (hm.later HB1.out) OK.out (hA.later HB1.out) hl).mono ?_
        rintro e w2 ⟨rfl, hb2⟩
        have HB2 := Lib.hid (below_then HB1.out hb2)
        clear q0 q1 q2
        obtain ⟨q0, q1, q2, z2⟩ := box3 (below_then HX1.out hb2) (by simp)
        clear hb2
        rw [HQ.out]
        go_wp2_with fail
        refine (largest_c _ m n _ (hm.later HB2.out) OK.out HIN.out).mono ?_
        rintro e w3 ⟨rfl, hb3⟩
        have HB3 := Lib.hid (below_then HB2.out hb3)
        go_wp2_with fail
        refine (members_c (largN m n) (by have := HLG.out; omega) _).mono ?_
        rintro e w4 ⟨u, rfl, ho, hb4⟩
        have HI := Lib.hid ho; clear ho
        go_wp2_with fail
        go_ret2
        exact ⟨_, rfl, (Own.mono (Own.of HI.out) HB3.out.size (Nat.le_refl _)).row, below_then HB3.out hb4⟩
end Go.Proofs.Ytbjcabphiddjgaa
