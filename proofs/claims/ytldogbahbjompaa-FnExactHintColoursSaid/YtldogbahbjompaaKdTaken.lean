/- Key walks: impl.taken, impl.TakenOn, spec.l2Taken. -/
import Derived.Test.YtldogbahbjompaaKdDistM
import Derived.Test.YtldogbahbjompaaKdSteps2
import Derived.Test.YtldogbahbjompaaKdChg
import Derived.Test.YtldogbahbjompaaKdValidD
import Derived.Deep.DeepCutAuto
set_option linter.unusedVariables false
set_option linter.unusedSimpArgs false
namespace Go.KD
open Go.RowKit
/-- What is known behind a key walk was read. -/
def TkPost (m : Mz) (W : List Int) (w : World) (e : Ending) (w' : World) : Prop :=
  Below w.heap.size w w' ∧ ((tkAll m W = true ∧ ∃ a c, e = .returned (.tuple #[.slice a W.length c, .bool true]) ∧ IC w' a (tkS m W W.length)) ∨ (tkAll m W = false ∧ ∃ a c, e = .returned (.tuple #[.slice a 0 c, .bool false])))
theorem tkB_in {m : Mz} {W : List Int} {k : Nat} (h : inB W[k]! 0 (m.size - 1) = false) : tkB m W k = false := by unfold tkB; rw [h]; rfl
theorem tkB_zero {m : Mz} {W : List Int} (h : inB W[0]! 0 (m.size - 1) = true) : tkB m W 0 = (W[0]! == 0) := by unfold tkB; rw [h]; rfl
theorem tkB_pos {m : Mz} {W : List Int} {k : Nat} (h : inB W[k]! 0 (m.size - 1) = true) (hk : 0 < k) : tkB m W k = opnB m W[k - 1]! W[k]! (keysL m (W.take k)) := by
  unfold tkB; rw [h, if_neg (by omega)]; rfl
theorem tkB_start {m : Mz} {W : List Int} (h : ¬ W[0]! = 0) : tkB m W 0 = false := by
  unfold tkB
  rw [if_pos rfl]
  have : (W[0]! == 0) = false := by simpa using h
  rw [this, Bool.and_false]
theorem hid_stepT {p : Nat → Prop} {k : Nat} (h : Hid (∀ j, j < k → p j)) (hk : p k) : Hid (∀ j, j < k + 1 → p j) := by
  intro j hj
  rcases Nat.lt_or_ge j k with h' | h'
  · exact h.out j h'
  · obtain rfl : j = k := by omega
    exact hk
end Go.KD
namespace Go.Proofs.Ytldogbahbjompaa
open Go.RowKit Go.KD
attribute [local go_sem] later_cell later_frozen
theorem within_is (x a b : Int) (r : Bool) (h : inB x a b = r) (w : World) : Calls Try.prog 104 #[.int .i64 x, .int .i64 a, .int .i64 b] w fun e w' => e = .returned (.bool r) ∧ w = w' := by rw [← h]; exact within_c x a b w
set_option maxRecDepth 100000 in
set_option maxHeartbeats 8000000 in
theorem taken_c (v : Value) (m : Mz) (a : Option Addr) (cap : Nat) (W : List Int) (w : World) (hm : MzAt w v m) (ok : MzOk m) (hA : IC w a W) (hl : W.length ≤ 1048576) :
    Calls Try.prog 140 #[v, .slice a W.length cap] w (TkPost m W w) := by
  have hM := hm
  obtain ⟨⟨ad, cd, ak, ck, rfl, hd, hk'⟩, nd, nk⟩ := hM
  obtain ⟨i0, ji, jz0, jz1, jz2⟩ := info_parts infoI
  have hsz1 : 1 ≤ m.size := ok.s1
  have hsz2 : m.size ≤ 12 := ok.s2
  have hnk := ok.nk
  have OK := Lib.hid ok; clear ok
  have HM := Lib.hid hm
  have HK := Lib.hid hk'
  have HA := Lib.hid hA
  rcases Nat.eq_zero_or_pos W.length with h0 | h0
  · have HD : Hid (tkAll m W = false) := tkAll_nil h0
    have HL0 := Lib.hid h0
    obtain ⟨n0, hn0⟩ : ∃ n0, n0 = W.length := ⟨_, rfl⟩
    rw [← hn0] at h0 ⊢
    subst h0
    clear hn0 hm hk' hA
    go_enter Try.func140, Try.ntmps140
    go_wp2
    go_ret2
    exact ⟨by (repeat (first | exact Below.refl _ _ | apply Below.drew | apply below_drewN | (refine Below.setCell ?_ (by first | omega | (simp; done) | (simp; omega) | (dsimp only; omega)) _) | (refine Below.alloc ?_ (by first | omega | (simp; done) | (simp; omega) | (dsimp only; omega)) _))), .inr ⟨HD.out, _, _, rfl⟩⟩
  · obtain ⟨b, off, x0, rfl, HX0, hbs0, e0⟩ := hA.at 0 h0
    rw [Nat.add_zero] at e0
    have hll : (0 : Int) < (W.length : Int) := by omega
    have h00 : ((W.length : Int) == 0) = false := by rw [beq_eq_false_iff_ne]; omega
    cases p0 : (x0 == 0)
    · have px : (x0 != 0) = true := by simpa using p0
      have HD : Hid (tkAll m W = false) := tkAll_no h0 (tkB_start (by rw [HX0.out]; simpa using p0))
      clear p0 hm hk' hA
      go_enter Try.func140, Try.ntmps140
      go_wp2
      go_ret2
      exact ⟨by (repeat (first | exact Below.refl _ _ | apply Below.drew | apply below_drewN | (refine Below.setCell ?_ (by first | omega | (simp; done) | (simp; omega) | (dsimp only; omega)) _) | (refine Below.alloc ?_ (by first | omega | (simp; done) | (simp; omega) | (dsimp only; omega)) _))), .inr ⟨HD.out, _, _, rfl⟩⟩
    · have hx0 : x0 = 0 := by simpa using p0
      subst hx0
      have HE0 : Hid (((w.alloc (.cells #[.int .i64 m.size, .slice ad m.doors.length cd, .slice ak m.keys.length ck] 29)).alloc (.cells #[] 3)).ownsRow (w.heap.size + 1) 3 1 (.slice (some ⟨w.heap.size + 1, 0, none⟩) 0 0) 0 (ints (tkS m W 0))) := by
        have h := World.ownsRow_lit (base := w.heap.size + 1) (e := 3) (size := 1) (w.alloc (.cells #[.int .i64 m.size, .slice ad m.doors.length cd, .slice ak m.keys.length ck] 29)) #[] 0 (by simp) (by unfold maxLen; omega) rfl
        rw [World.size_alloc] at h
        exact h
      clear p0 hm hk' hA
      go_enter Try.func140, Try.ntmps140
      go_wp2
      go_loopw [6, 7, 22] (fun ov sv iv wr => ∃ k n : Nat, iv = .int .i64 k ∧ k ≤ W.length ∧ sv = .int .i64 n ∧ n < 64 ∧ Hid (n = keysL m (W.take k)) ∧ Hid (wr.ownsRow (w.heap.size + 1) 3 1 ov k (ints (tkS m W k))) ∧ Hid (Below (w.heap.size + 1) (w.alloc (.cells #[.int .i64 m.size, .slice ad m.doors.length cd, .slice ak m.keys.length ck] 29)) wr) ∧ Hid (∀ j, j < k → tkB m W j = true)) (fun _ _ iv _ => W.length - (intOf iv).toNat)
      case atStart => exact ⟨0, 0, rfl, Nat.zero_le _, rfl, by omega, rfl, HE0, (Below.refl _ _).alloc (by simp) _, fun j hj => absurd hj (Nat.not_lt_zero j)⟩
      case round =>
        clear e0 HE0
        obtain ⟨wo, rfl⟩ : ∃ wo : World, wo = wr := ⟨_, rfl⟩
        obtain ⟨k, n, rfl, hk, rfl, hn, HN, HO, HBo, HJ⟩ := hrel
        have HB : Hid (Below w.heap.size w wo) := below_box HBo.out (by omega)
        obtain ⟨q0, q1, q2, z1⟩ := box3 HBo.out (by omega)
        have hzo := HBo.out.size
        simp only [World.size_alloc] at hzo
        obtain ⟨aO, cO, rfl⟩ := own_slice HO.out
        by_cases hlt : k < W.length
        · obtain ⟨b', off', x, hb', HX, hbs2, e3⟩ := (HA.out.later HB.out).at k hlt
          cases hb'
          have hkk : (k : Int) < (W.length : Int) := by omega
          cases p1 : inB x 0 (m.size - 1)
          · have HD : Hid (tkAll m W = false) := tkAll_no hlt (tkB_in (by rw [HX.out]; exact p1))
            have HP1 := Lib.hid p1
            clear p1
            go_upto_region 7 with fail
            refine wp_region_later (wo.heap.size) (by kernel_rfl) (by kernel_rfl) ?_
            repeat (first | go_big_quiet_skip | (go_big_quiet_want; go_big_quiet_op; (first | go_big_quiet_on | (apply Exists.intro; refine ⟨fun W => ?_, ?_⟩; (first | (go_at_call 104; exact Calls.later_same (within_is _ _ _ false HP1.out _))); go_big_quiet_on))))
            refine wpQuiet_nil ?_; rintro _ ⟨⟨w9, hb9⟩, rfl⟩; obtain ⟨hc9, hf9, hz9⟩ := bcell3 hb9
            go_wp2
            go_ret2
            exact ⟨HB.out.trans (hb9.mono (by have := HB.out.size; omega)), .inr ⟨HD.out, _, _, rfl⟩⟩
          · have hy := inB_true.1 p1
            obtain ⟨xn, rfl⟩ := Int.eq_ofNat_of_zero_le hy.1
            have hx12 : xn < 12 := by omega
            have hxI : (xn : Int) < m.size := by omega
            have HP1 := Lib.hid p1
            obtain ⟨bk, offk, kx, hak, HKX, hbsk, ek⟩ := (HK.out.later HB.out).at xn (by omega)
            subst hak
            have hkx := key_facts OK.out (k := xn) (by omega)
            rw [HKX.out] at hkx
            obtain ⟨kn, rfl⟩ := Int.eq_ofNat_of_zero_le hkx.1
            have hkn : kn < 64 := by omega
            obtain ⟨t, ht⟩ : ∃ t, t = n ||| kn := ⟨_, rfl⟩
            have ht64 : t < 64 := by rw [ht]; exact Nat.or_lt_two_pow (n := 6) hn hkn
            have eo : bits .or .i64 (n : Int) (kn : Int) = (t : Int) := by rw [ht]; exact i64_or n kn (by omega) (by omega)
            have HNX : Hid (t = keysL m (W.take (k + 1))) := by
              show _ = _
              rw [ht, keysL_next m W hlt, HX.out, Int.toNat_natCast, HKX.out, Int.toNat_natCast, ← HN.out]
            have hxI2 : (xn : Int) < 12 := by omega
            clear ht hkx hy p1
            rcases Nat.eq_zero_or_pos k with hk0 | hk0
            · have HTB : Hid (tkB m W k = true) := by
                show _ = _
                rw [hk0]
                rw [tkB_zero (by rw [← hk0, HX.out]; exact HP1.out), HX0.out]; rfl
              have hki : decide (0 < k) = false := by simp; omega
              have hki2 : decide ((0 : Int) < (k : Int)) = false := by simp; omega
              have HK0 := Lib.hid hk0
              clear hk0
              go_upto_region 7 with fail
              refine wp_region_later (wo.heap.size) (by kernel_rfl) (by kernel_rfl) ?_
              repeat (first | go_big_quiet_skip | (go_big_quiet_want; go_big_quiet_op; (first | go_big_quiet_on | (apply Exists.intro; refine ⟨fun W => ?_, ?_⟩; (first | (go_at_call 104; exact Calls.later_same (within_is _ _ _ true HP1.out _))); go_big_quiet_on))))
              refine wpQuiet_nil ?_
              rintro w9 ⟨⟨w9', hb9⟩, h9⟩
              change w9 = w9' at h9
              subst h9
              obtain ⟨hc9, hf9, hz9⟩ := bcell3 hb9
              have HB9 : Hid (Below (w.heap.size + 1) (w.alloc (.cells #[.int .i64 m.size, .slice ad m.doors.length cd, .slice (some ⟨bk, offk, none⟩) m.keys.length ck] 29)) w9) := HBo.out.trans (hb9.mono (by omega))
              have HO9 : Hid (w9.ownsRow (w.heap.size + 1) 3 1 (.slice aO k cO) k (ints (tkS m W k))) := own_below HO.out hb9
              have hz9' := hb9.size
              clear q0 q1 q2 hc9 hf9
              obtain ⟨q0, q1, q2, -⟩ := box3 HB9.out (by omega)
              replace ek := (hb9.cell (p := ⟨bk, offk + xn, none⟩) hbsk).trans ek
              go_wp2_with (at_builtin; refine wpList_append_own _ rfl _ _ 23 rfl (w.heap.size + 1) 3 i0 (.int .i64 0) 1 8 Try.underlying23 ji jz0 jz1 jz2 rfl (by decide) _ _ _ rfl (HO9.out.alloc _) ⟨w9.heap.size, 0, none⟩ 1 1 [.int .i64 t] rfl rfl ?_ ?_ ?_ ?_ ?_ ?_; (exact cell_one_new _ _ _); (simp [Value.oneCell']); (unfold maxLen; omega); omega; (simp; omega); intro v' w3 hown' hgrow _)
              go_roundw
              case rel => exact ⟨k + 1, t, by go_num, by omega, rfl, ht64, HNX, by rw [tkS_snoc, ints_snoc, ← HNX.out]; exact hown', (HB9.out.alloc (by omega) _).grown hgrow (by simp; omega) (fun g hg => own_block_lo HO9.out hg), hid_stepT HJ HTB.out⟩
              case measure => simp [intOf]; omega
            · have hki : (0 : Int) < (k : Int) := by omega
              obtain ⟨b2, off2, px, hb2, HY, hbs3, f0⟩ := (HA.out.later HB.out).at (k - 1) (by omega)
              obtain ⟨rfl, rfl⟩ : b = b2 ∧ off = off2 := by simpa using hb2
              clear hb2
              obtain ⟨X, hX⟩ : ∃ X, X = stN m px n := ⟨_, rfl⟩
              have hXl : X < 4096 := by rw [hX]; exact stN_lt OK.out px n
              have HTX : Hid (tkB m W k = X.testBit xn) := by
                show _ = _
                rw [tkB_pos (by rw [HX.out]; exact HP1.out) hk0, HY.out, HX.out, ← HN.out, hX, stN_bit OK.out]
              have HST : Hid (∀ Wl, Below wo.heap.size wo Wl → Calls Try.prog 141 #[.agg #[.int .i64 m.size, .slice ad m.doors.length cd, .slice (some ⟨bk, offk, none⟩) m.keys.length ck], .int .i64 px, .int .i64 n] Wl fun e w' => e = .returned (.int .i64 X) ∧ Below Wl.heap.size Wl w') := by
                rw [hX]
                exact fun Wl hW => steps_c _ m px n Wl (HM.out.later (HB.out.trans (hW.mono (by omega)))) OK.out
              clear hX
              obtain ⟨y1, HY1, ey1⟩ := shr_at X xn
              have hy1 : y1 < 1099511627776 := by
                have := HY1.out; rw [Nat.shiftRight_eq_div_pow] at *; have := Nat.div_le_self X (2 ^ xn); omega
              have HA1 := Lib.hid (and1 hy1)
              have HB1 := Lib.hid (bit_shr X xn)
              clear hy1
              cases hbit : X.testBit xn
              · have ea : bits .and .i64 (y1 : Int) 1 = 0 := by rw [HA1.out, HY1.out, HB1.out, hbit]; rfl
                have HD : Hid (tkAll m W = false) := tkAll_no hlt (by rw [HTX.out, hbit])
                clear hbit
                go_upto_region 7 with fail
                refine wp_region_later (wo.heap.size) (by kernel_rfl) (by kernel_rfl) ?_
                repeat (first | go_big_quiet_skip | (go_big_quiet_want; go_big_quiet_op; (first | go_big_quiet_on | (apply Exists.intro; refine ⟨fun W => ?_, ?_⟩; (first | (go_at_call 104; exact Calls.later_same (within_is _ _ _ true HP1.out _)) | (go_at_call 141; exact Calls.later_of (Nat.le_refl _) (HST.out _ (Subtype.property _)))); go_big_quiet_on))))
                refine wpQuiet_nil ?_; rintro _ ⟨⟨w9, hb9⟩, rfl⟩; obtain ⟨hc9, hf9, hz9⟩ := bcell3 hb9
                go_wp2
                go_ret2
                exact ⟨HB.out.trans (hb9.mono (by have := HB.out.size; omega)), .inr ⟨HD.out, _, _, rfl⟩⟩
              · have ea : bits .and .i64 (y1 : Int) 1 = 1 := by rw [HA1.out, HY1.out, HB1.out, hbit]; rfl
                have HTB : Hid (tkB m W k = true) := by show _ = _; rw [HTX.out, hbit]
                clear hbit
                go_upto_region 7 with fail
                refine wp_region_later (wo.heap.size) (by kernel_rfl) (by kernel_rfl) ?_
                repeat (first | go_big_quiet_skip | (go_big_quiet_want; go_big_quiet_op; (first | go_big_quiet_on | (apply Exists.intro; refine ⟨fun W => ?_, ?_⟩; (first | (go_at_call 104; exact Calls.later_same (within_is _ _ _ true HP1.out _)) | (go_at_call 141; exact Calls.later_of (Nat.le_refl _) (HST.out _ (Subtype.property _)))); go_big_quiet_on))))
                refine wpQuiet_nil ?_
                rintro w9 ⟨⟨w9', hb9⟩, h9⟩
                change w9 = w9' at h9
                subst h9
                obtain ⟨hc9, hf9, hz9⟩ := bcell3 hb9
                have HB9 : Hid (Below (w.heap.size + 1) (w.alloc (.cells #[.int .i64 m.size, .slice ad m.doors.length cd, .slice (some ⟨bk, offk, none⟩) m.keys.length ck] 29)) w9) := HBo.out.trans (hb9.mono (by omega))
                have HO9 : Hid (w9.ownsRow (w.heap.size + 1) 3 1 (.slice aO k cO) k (ints (tkS m W k))) := own_below HO.out hb9
                have hz9' := hb9.size
                clear q0 q1 q2 hc9 hf9
                obtain ⟨q0, q1, q2, -⟩ := box3 HB9.out (by omega)
                replace ek := (hb9.cell (p := ⟨bk, offk + xn, none⟩) hbsk).trans ek
                go_wp2_with (at_builtin; refine wpList_append_own _ rfl _ _ 23 rfl (w.heap.size + 1) 3 i0 (.int .i64 0) 1 8 Try.underlying23 ji jz0 jz1 jz2 rfl (by decide) _ _ _ rfl (HO9.out.alloc _) ⟨w9.heap.size, 0, none⟩ 1 1 [.int .i64 t] rfl rfl ?_ ?_ ?_ ?_ ?_ ?_; (exact cell_one_new _ _ _); (simp [Value.oneCell']); (unfold maxLen; omega); omega; (simp; omega); intro v' w3 hown' hgrow _)
                go_roundw
                case rel => exact ⟨k + 1, t, by go_num, by omega, rfl, ht64, HNX, by rw [tkS_snoc, ints_snoc, ← HNX.out]; exact hown', (HB9.out.alloc (by omega) _).grown hgrow (by simp; omega) (fun g hg => own_block_lo HO9.out hg), hid_stepT HJ HTB.out⟩
                case measure => simp [intOf]; omega
        · obtain rfl : k = W.length := by omega
          have HD : Hid (tkAll m W = true) := tkAll_yes h0 HJ.out
          have HIC : Hid (IC wo aO (tkS m W W.length)) := ic_of' (Own.of HO.out) (tkS_len _ _ _).symm
          go_wp2
          go_ret2
          exact ⟨HB.out, .inl ⟨HD.out, _, _, rfl, HIC.out⟩⟩
theorem takenOn_no (v : Value) (m : Mz) (a : Option Addr) (cap n : Nat) (w : World) (hm : MzAt w v m) (b1 : mazeB m = false) :
    Calls Try.prog 93 #[v, .slice a n cap] w fun e w' => e = .returned (.tuple #[.slice none 0 0, .bool false]) ∧ Below w.heap.size w w' := by
  have hM := hm
  obtain ⟨⟨ad, cd, ak, ck, rfl, hd, hk'⟩, nd, nk⟩ := hM
  go_enter Try.func93, Try.ntmps93
  go_wp2_with (go_at_call 81; refine (isMaze_c _ m _ (hm.later (by (repeat (first | exact Below.refl _ _ | apply Below.drew | apply below_drewN | (refine Below.setCell ?_ (by first | omega | (simp; done) | (simp; omega) | (dsimp only; omega)) _) | (refine Below.alloc ?_ (by first | omega | (simp; done) | (simp; omega) | (dsimp only; omega)) _)))))).mono ?_; rintro e w1 ⟨rfl, hb1⟩; have HB1 : Hid (Below w.heap.size w w1) := below_then (by (repeat (first | exact Below.refl _ _ | apply Below.drew | apply below_drewN | (refine Below.setCell ?_ (by first | omega | (simp; done) | (simp; omega) | (dsimp only; omega)) _) | (refine Below.alloc ?_ (by first | omega | (simp; done) | (simp; omega) | (dsimp only; omega)) _)))) hb1; rw [b1])
  go_ret2
  exact ⟨rfl, HB1.out⟩
theorem takenOn_yes (v : Value) (m : Mz) (a : Option Addr) (cap : Nat) (W : List Int) (w : World) (hm : MzAt w v m) (b1 : mazeB m = true) (hA : IC w a W) (hl : W.length ≤ 1048576) :
    Calls Try.prog 93 #[v, .slice a W.length cap] w (TkPost m W w) := by
  have hM := hm
  obtain ⟨⟨ad, cd, ak, ck, rfl, hd, hk'⟩, nd, nk⟩ := hM
  have OK := Lib.hid (mazeB_true.1 b1)
  have HM := Lib.hid hm
  have HA := Lib.hid hA
  clear hm hA
  go_enter Try.func93, Try.ntmps93
  go_wp2_with fail
  refine (isMaze_c _ m _ (HM.out.later (by (repeat (first | exact Below.refl _ _ | apply Below.drew | apply below_drewN | (refine Below.setCell ?_ (by first | omega | (simp; done) | (simp; omega) | (dsimp only; omega)) _) | (refine Below.alloc ?_ (by first | omega | (simp; done) | (simp; omega) | (dsimp only; omega)) _)))))).mono ?_
  rintro e w1 ⟨rfl, hb1⟩
  have HB1 : Hid (Below w.heap.size w w1) := below_then (by (repeat (first | exact Below.refl _ _ | apply Below.drew | apply below_drewN | (refine Below.setCell ?_ (by first | omega | (simp; done) | (simp; omega) | (dsimp only; omega)) _) | (refine Below.alloc ?_ (by first | omega | (simp; done) | (simp; omega) | (dsimp only; omega)) _)))) hb1
  obtain ⟨q0, q1, q2, z1⟩ := box3 hb1 (by simp)
  rw [b1]
  clear hb1
  go_wp2_with fail
  refine (taken_c _ m _ _ W _ (HM.out.later HB1.out) OK.out (HA.out.later HB1.out) hl).mono ?_
  rintro e w2 ⟨hb2, hp⟩
  have HB2 : Hid (Below w.heap.size w w2) := below_then HB1.out hb2
  clear hb2
  rcases hp with ⟨ht, a2, c2, rfl, hi⟩ | ⟨ht, a2, c2, rfl⟩
  · have HT := Lib.hid ht
    have HI := Lib.hid hi
    clear ht hi
    go_wp2_with fail
    go_ret2
    exact ⟨HB2.out, .inl ⟨HT.out, _, _, rfl, HI.out⟩⟩
  · have HT := Lib.hid ht
    clear ht
    go_wp2_with fail
    go_ret2
    exact ⟨HB2.out, .inr ⟨HT.out, _, _, rfl⟩⟩
theorem l1In_is (x a b : Int) (r : Bool) (h : inB x a b = r) (w : World) : Calls Try.prog 97 #[.int .i64 x, .int .i64 a, .int .i64 b] w fun e w' => e = .returned (.bool r) ∧ w = w' := by rw [← h]; exact l1In_c x a b w
set_option maxRecDepth 100000 in
set_option maxHeartbeats 8000000 in
theorem l2Taken_c (v : Value) (m : Mz) (a : Option Addr) (cap : Nat) (W : List Int) (w : World) (hm : MzAt w v m) (ok : MzOk m) (hA : IC w a W) (hl : W.length ≤ 1048576) :
    Calls Try.prog 89 #[v, .slice a W.length cap] w (TkPost m W w) := by
  have hM := hm
  obtain ⟨⟨ad, cd, ak, ck, rfl, hd, hk'⟩, nd, nk⟩ := hM
  obtain ⟨i0, ji, jz0, jz1, jz2⟩ := info_parts infoI
  have hsz1 : 1 ≤ m.size := ok.s1
  have hsz2 : m.size ≤ 12 := ok.s2
  have hnk := ok.nk
  have OK := Lib.hid ok; clear ok
  have HM := Lib.hid hm
  have HK := Lib.hid hk'
  have HA := Lib.hid hA
  have HE0 : Hid (((w.alloc (.cells #[.int .i64 m.size, .slice ad m.doors.length cd, .slice ak m.keys.length ck] 29)).alloc (.cells #[] 3)).ownsRow (w.heap.size + 1) 3 1 (.slice (some ⟨w.heap.size + 1, 0, none⟩) 0 0) 0 (ints (tkS m W 0))) := by
    have h := World.ownsRow_lit (base := w.heap.size + 1) (e := 3) (size := 1) (w.alloc (.cells #[.int .i64 m.size, .slice ad m.doors.length cd, .slice ak m.keys.length ck] 29)) #[] 0 (by simp) (by unfold maxLen; omega) rfl
    rw [World.size_alloc] at h
    exact h
  clear hm hk' hA
  go_enter Try.func89, Try.ntmps89
  go_wp2
  go_loopw [6, 7, 8] (fun ov sv iv wr => ∃ k n : Nat, iv = .int .i64 k ∧ k ≤ W.length ∧ sv = .int .i64 n ∧ n < 64 ∧ Hid (n = keysL m (W.take k)) ∧ Hid (wr.ownsRow (w.heap.size + 1) 3 1 ov k (ints (tkS m W k))) ∧ Hid (Below (w.heap.size + 1) (w.alloc (.cells #[.int .i64 m.size, .slice ad m.doors.length cd, .slice ak m.keys.length ck] 29)) wr) ∧ Hid (∀ j, j < k → tkB m W j = true)) (fun _ _ iv _ => W.length - (intOf iv).toNat)
  case atStart => exact ⟨0, 0, rfl, Nat.zero_le _, rfl, by omega, rfl, HE0, (Below.refl _ _).alloc (by simp) _, fun j hj => absurd hj (Nat.not_lt_zero j)⟩
  case round =>
    clear HE0
    obtain ⟨wo, rfl⟩ : ∃ wo : World, wo = wr := ⟨_, rfl⟩
    obtain ⟨k, n, rfl, hk, rfl, hn, HN, HO, HBo, HJ⟩ := hrel
    have HB : Hid (Below w.heap.size w wo) := below_box HBo.out (by omega)
    obtain ⟨q0, q1, q2, z1⟩ := box3 HBo.out (by omega)
    have hzo := HBo.out.size
    simp only [World.size_alloc] at hzo
    obtain ⟨aO, cO, rfl⟩ := own_slice HO.out
    by_cases hlt : k < W.length
    · obtain ⟨b, off, x, hb', HX, hbs2, e3⟩ := (HA.out.later HB.out).at k hlt
      subst hb'
      have hkk : (k : Int) < (W.length : Int) := by omega
      cases p1 : inB x 0 (m.size - 1)
      · have HD : Hid (tkAll m W = false) := tkAll_no hlt (tkB_in (by rw [HX.out]; exact p1))
        have HP1 := Lib.hid p1
        clear p1
        go_upto_region 5 with fail
        refine wp_region_later (wo.heap.size) (by kernel_rfl) (by kernel_rfl) ?_
        repeat (first | go_big_quiet_skip | (go_big_quiet_want; go_big_quiet_op; (first | go_big_quiet_on | (apply Exists.intro; refine ⟨fun W => ?_, ?_⟩; (first | (go_at_call 97; exact Calls.later_same (l1In_is _ _ _ false HP1.out _))); go_big_quiet_on))))
        refine wpQuiet_nil ?_; rintro _ ⟨⟨w9, hb9⟩, rfl⟩; obtain ⟨hc9, hf9, hz9⟩ := bcell3 hb9
        go_wp2
        go_ret2
        exact ⟨(HB.out.trans (hb9.mono (by have := HB.out.size; omega))).alloc (by have h1 := HB.out.size; have h2 := hb9.size; omega) _, .inr ⟨HD.out, _, _, rfl⟩⟩
      · have hy := inB_true.1 p1
        obtain ⟨xn, rfl⟩ := Int.eq_ofNat_of_zero_le hy.1
        have hx12 : xn < 12 := by omega
        have hxI : (xn : Int) < m.size := by omega
        have HP1 := Lib.hid p1
        obtain ⟨bk, offk, kx, hak, HKX, hbsk, ek⟩ := (HK.out.later HB.out).at xn (by omega)
        subst hak
        have hkx := key_facts OK.out (k := xn) (by omega)
        rw [HKX.out] at hkx
        obtain ⟨kn, rfl⟩ := Int.eq_ofNat_of_zero_le hkx.1
        have hkn : kn < 64 := by omega
        obtain ⟨t, ht⟩ : ∃ t, t = n ||| kn := ⟨_, rfl⟩
        have ht64 : t < 64 := by rw [ht]; exact Nat.or_lt_two_pow (n := 6) hn hkn
        have eo : bits .or .i64 (n : Int) (kn : Int) = (t : Int) := by rw [ht]; exact i64_or n kn (by omega) (by omega)
        have HNX : Hid (t = keysL m (W.take (k + 1))) := by
          show _ = _
          rw [ht, keysL_next m W hlt, HX.out, Int.toNat_natCast, HKX.out, Int.toNat_natCast, ← HN.out]
        have hxI2 : (xn : Int) < 12 := by omega
        clear ht hkx hy p1
        rcases Nat.eq_zero_or_pos k with hk0 | hk0
        · have hki : decide (0 < k) = false := by simp; omega
          have hki2 : decide ((0 : Int) < (k : Int)) = false := by simp; omega
          have hke : ((k : Int) == 0) = true := by simp; omega
          have hke2 : (k == 0) = true := by simp; omega
          have e4 := e3
          rw [hk0, Nat.add_zero] at e4
          have hlp : (0 : Int) < (W.length : Int) := by omega
          have HX4 : Hid (W[0]! = (xn : Int)) := by have := HX.out; rw [hk0] at this; exact this
          have HK0 := Lib.hid hk0
          cases p0 : (xn == 0)
          · have p0' : ((xn : Int) != 0) = true := by simp only [beq_eq_false_iff_ne] at p0; simp; omega
            have HD : Hid (tkAll m W = false) := tkAll_no hlt (by rw [HK0.out]; exact tkB_start (by rw [HX4.out]; simp only [beq_eq_false_iff_ne] at p0; omega))
            clear p0 hk0
            go_upto_region 5 with fail
            refine wp_region_later (wo.heap.size) (by kernel_rfl) (by kernel_rfl) ?_
            repeat (first | go_big_quiet_skip | (go_big_quiet_want; go_big_quiet_op; (first | go_big_quiet_on | (apply Exists.intro; refine ⟨fun W => ?_, ?_⟩; (first | (go_at_call 97; exact Calls.later_same (l1In_is _ _ _ true HP1.out _))); go_big_quiet_on))))
            refine wpQuiet_nil ?_; rintro _ ⟨⟨w9, hb9⟩, rfl⟩; obtain ⟨hc9, hf9, hz9⟩ := bcell3 hb9
            go_wp2
            go_ret2
            exact ⟨(HB.out.trans (hb9.mono (by have := HB.out.size; omega))).alloc (by have h1 := HB.out.size; have h2 := hb9.size; omega) _, .inr ⟨HD.out, _, _, rfl⟩⟩
          · have hxn0 : xn = 0 := by simpa using p0
            subst hxn0
            have HTB : Hid (tkB m W k = true) := by
              show _ = _
              rw [HK0.out, tkB_zero (by rw [HX4.out]; exact HP1.out), HX4.out]; rfl
            clear p0 hk0
            rw [Nat.add_zero] at ek
            go_upto_region 5 with fail
            refine wp_region_later (wo.heap.size) (by kernel_rfl) (by kernel_rfl) ?_
            repeat (first | go_big_quiet_skip | (go_big_quiet_want; go_big_quiet_op; (first | go_big_quiet_on | (apply Exists.intro; refine ⟨fun W => ?_, ?_⟩; (first | (go_at_call 97; exact Calls.later_same (l1In_is _ _ _ true HP1.out _))); go_big_quiet_on))))
            refine wpQuiet_nil ?_
            rintro w9 ⟨⟨w9', hb9⟩, h9⟩
            change w9 = w9' at h9
            subst h9
            obtain ⟨hc9, hf9, hz9⟩ := bcell3 hb9
            have HB9 : Hid (Below (w.heap.size + 1) (w.alloc (.cells #[.int .i64 m.size, .slice ad m.doors.length cd, .slice (some ⟨bk, offk, none⟩) m.keys.length ck] 29)) w9) := HBo.out.trans (hb9.mono (by omega))
            have HO9 : Hid (w9.ownsRow (w.heap.size + 1) 3 1 (.slice aO k cO) k (ints (tkS m W k))) := own_below HO.out hb9
            have hz9' := hb9.size
            clear q0 q1 q2 hc9 hf9 hz9
            obtain ⟨q0, q1, q2, z9⟩ := box3 HB9.out (by omega)
            have hbsk9 : bk < w9.heap.size := by omega
            have hbs9 : b < w9.heap.size := by omega
            replace ek := (hb9.cell (p := ⟨bk, offk, none⟩) hbsk).trans ek
            replace e3 := (hb9.cell (p := ⟨b, off + k, none⟩) hbs2).trans e3
            go_upto_region 7 with fail
            refine wp_region_later (w9.heap.size) (by kernel_rfl) (by kernel_rfl) ?_
            repeat (first | go_big_quiet_skip | (go_big_quiet_want; go_big_quiet_op; go_big_quiet_on))
            refine wpQuiet_nil ?_
            rintro w8 ⟨⟨w8', hb8⟩, h8⟩
            change w8 = w8' at h8
            subst h8
            have HB8 : Hid (Below (w.heap.size + 1) (w.alloc (.cells #[.int .i64 m.size, .slice ad m.doors.length cd, .slice (some ⟨bk, offk, none⟩) m.keys.length ck] 29)) w8) := HB9.out.trans (hb8.mono (by omega))
            have HO8 : Hid (w8.ownsRow (w.heap.size + 1) 3 1 (.slice aO k cO) k (ints (tkS m W k))) := own_below HO9.out hb8
            have hz8' := hb8.size
            clear q0 q1 q2 ek e3 hb8 hb9
            go_wp2_with (at_builtin; refine wpList_append_own _ rfl _ _ 23 rfl (w.heap.size + 1) 3 i0 (.int .i64 0) 1 8 Try.underlying23 ji jz0 jz1 jz2 rfl (by decide) _ _ _ rfl (HO8.out.alloc _) ⟨w8.heap.size, 0, none⟩ 1 1 [.int .i64 t] rfl rfl ?_ ?_ ?_ ?_ ?_ ?_; (exact cell_one_new _ _ _); (simp [Value.oneCell']); (unfold maxLen; omega); omega; (simp; omega); intro v' w3 hown' hgrow _)
            go_roundw
            case rel => exact ⟨k + 1, t, by go_num, by omega, rfl, ht64, HNX, by rw [tkS_snoc, ints_snoc, ← HNX.out]; exact hown', (HB8.out.alloc (by omega) _).grown hgrow (by simp; omega) (fun g hg => own_block_lo HO8.out hg), hid_stepT HJ HTB.out⟩
            case measure => simp [intOf]; omega
        · have hki : (0 : Int) < (k : Int) := by omega
          have hke : ((k : Int) == 0) = false := by simp; omega
          have hke2 : (k == 0) = false := by simp; omega
          obtain ⟨b2, off2, px, hb2, HY, hbs3, f0⟩ := (HA.out.later HB.out).at (k - 1) (by omega)
          obtain ⟨rfl, rfl⟩ : b = b2 ∧ off = off2 := by simpa using hb2
          clear hb2
          have HTX : Hid (tkB m W k = opnB m px (xn : Int) n) := by
            show _ = _
            rw [tkB_pos (by rw [HX.out]; exact HP1.out) hk0, HY.out, HX.out, ← HN.out]
          cases p2 : opnB m px (xn : Int) n
          · have HOP : Hid (∀ Wl, Below wo.heap.size wo Wl → Calls Try.prog 139 #[.agg #[.int .i64 m.size, .slice ad m.doors.length cd, .slice (some ⟨bk, offk, none⟩) m.keys.length ck], .int .i64 px, .int .i64 (xn : Int), .int .i64 n] Wl fun e w' => e = .returned (.bool false) ∧ Below Wl.heap.size Wl w') := by
              rw [← p2]
              exact fun Wl hW => l2Open_c _ m px _ n Wl (HM.out.later (HB.out.trans (hW.mono (by omega)))) OK.out hn
            have HD : Hid (tkAll m W = false) := tkAll_no hlt (by rw [HTX.out, p2])
            clear p2
            go_upto_region 5 with fail
            refine wp_region_later (wo.heap.size) (by kernel_rfl) (by kernel_rfl) ?_
            repeat (first | go_big_quiet_skip | (go_big_quiet_want; go_big_quiet_op; (first | go_big_quiet_on | (apply Exists.intro; refine ⟨fun W => ?_, ?_⟩; (first | (go_at_call 97; exact Calls.later_same (l1In_is _ _ _ true HP1.out _)) | (go_at_call 139; exact Calls.later_of (Nat.le_refl _) (HOP.out _ (Subtype.property _)))); go_big_quiet_on))))
            refine wpQuiet_nil ?_; rintro _ ⟨⟨w9, hb9⟩, rfl⟩; obtain ⟨hc9, hf9, hz9⟩ := bcell3 hb9
            go_wp2
            go_ret2
            exact ⟨(HB.out.trans (hb9.mono (by have := HB.out.size; omega))).alloc (by have h1 := HB.out.size; have h2 := hb9.size; omega) _, .inr ⟨HD.out, _, _, rfl⟩⟩
          · have HOP : Hid (∀ Wl, Below wo.heap.size wo Wl → Calls Try.prog 139 #[.agg #[.int .i64 m.size, .slice ad m.doors.length cd, .slice (some ⟨bk, offk, none⟩) m.keys.length ck], .int .i64 px, .int .i64 (xn : Int), .int .i64 n] Wl fun e w' => e = .returned (.bool true) ∧ Below Wl.heap.size Wl w') := by
              rw [← p2]
              exact fun Wl hW => l2Open_c _ m px _ n Wl (HM.out.later (HB.out.trans (hW.mono (by omega)))) OK.out hn
            have HTB : Hid (tkB m W k = true) := by show _ = _; rw [HTX.out, p2]
            clear p2
            go_upto_region 5 with fail
            refine wp_region_later (wo.heap.size) (by kernel_rfl) (by kernel_rfl) ?_
            repeat (first | go_big_quiet_skip | (go_big_quiet_want; go_big_quiet_op; (first | go_big_quiet_on | (apply Exists.intro; refine ⟨fun W => ?_, ?_⟩; (first | (go_at_call 97; exact Calls.later_same (l1In_is _ _ _ true HP1.out _)) | (go_at_call 139; exact Calls.later_of (Nat.le_refl _) (HOP.out _ (Subtype.property _)))); go_big_quiet_on))))
            refine wpQuiet_nil ?_
            rintro w9 ⟨⟨w9', hb9⟩, h9⟩
            change w9 = w9' at h9
            subst h9
            obtain ⟨hc9, hf9, hz9⟩ := bcell3 hb9
            have HB9 : Hid (Below (w.heap.size + 1) (w.alloc (.cells #[.int .i64 m.size, .slice ad m.doors.length cd, .slice (some ⟨bk, offk, none⟩) m.keys.length ck] 29)) w9) := HBo.out.trans (hb9.mono (by omega))
            have HO9 : Hid (w9.ownsRow (w.heap.size + 1) 3 1 (.slice aO k cO) k (ints (tkS m W k))) := own_below HO.out hb9
            have hz9' := hb9.size
            clear q0 q1 q2 hc9 hf9 hz9
            obtain ⟨q0, q1, q2, z9⟩ := box3 HB9.out (by omega)
            have hbsk9 : bk < w9.heap.size := by omega
            have hbs9 : b < w9.heap.size := by omega
            replace ek := (hb9.cell (p := ⟨bk, offk + xn, none⟩) hbsk).trans ek
            replace e3 := (hb9.cell (p := ⟨b, off + k, none⟩) hbs2).trans e3
            go_upto_region 7 with fail
            refine wp_region_later (w9.heap.size) (by kernel_rfl) (by kernel_rfl) ?_
            repeat (first | go_big_quiet_skip | (go_big_quiet_want; go_big_quiet_op; go_big_quiet_on))
            refine wpQuiet_nil ?_
            rintro w8 ⟨⟨w8', hb8⟩, h8⟩
            change w8 = w8' at h8
            subst h8
            have HB8 : Hid (Below (w.heap.size + 1) (w.alloc (.cells #[.int .i64 m.size, .slice ad m.doors.length cd, .slice (some ⟨bk, offk, none⟩) m.keys.length ck] 29)) w8) := HB9.out.trans (hb8.mono (by omega))
            have HO8 : Hid (w8.ownsRow (w.heap.size + 1) 3 1 (.slice aO k cO) k (ints (tkS m W k))) := own_below HO9.out hb8
            have hz8' := hb8.size
            clear q0 q1 q2 ek e3 hb8 hb9
            go_wp2_with (at_builtin; refine wpList_append_own _ rfl _ _ 23 rfl (w.heap.size + 1) 3 i0 (.int .i64 0) 1 8 Try.underlying23 ji jz0 jz1 jz2 rfl (by decide) _ _ _ rfl (HO8.out.alloc _) ⟨w8.heap.size, 0, none⟩ 1 1 [.int .i64 t] rfl rfl ?_ ?_ ?_ ?_ ?_ ?_; (exact cell_one_new _ _ _); (simp [Value.oneCell']); (unfold maxLen; omega); omega; (simp; omega); intro v' w3 hown' hgrow _)
            go_roundw
            case rel => exact ⟨k + 1, t, by go_num, by omega, rfl, ht64, HNX, by rw [tkS_snoc, ints_snoc, ← HNX.out]; exact hown', (HB8.out.alloc (by omega) _).grown hgrow (by simp; omega) (fun g hg => own_block_lo HO8.out hg), hid_stepT HJ HTB.out⟩
            case measure => simp [intOf]; omega
    · obtain rfl : k = W.length := by omega
      have HIC : Hid (IC wo aO (tkS m W W.length)) := ic_of' (Own.of HO.out) (tkS_len _ _ _).symm
      rcases Nat.eq_zero_or_pos W.length with h0 | h0
      · have HD : Hid (tkAll m W = false) := tkAll_nil h0
        have hd0 : decide ((0 : Int) < (W.length : Int)) = false := decide_eq_false (by omega)
        have hd1 : decide (0 < W.length) = false := decide_eq_false (by omega)
        have HH0 := Lib.hid h0
        clear h0
        go_wp2
        go_ret2
        exact ⟨HB.out, .inr ⟨HD.out, aO, cO, by rw [HH0.out]; rfl⟩⟩
      · have HD : Hid (tkAll m W = true) := tkAll_yes h0 HJ.out
        have hd0 : (0 : Int) < (W.length : Int) := by omega
        go_wp2
        go_ret2
        exact ⟨HB.out, .inl ⟨HD.out, _, _, rfl, HIC.out⟩⟩
end Go.Proofs.Ytldogbahbjompaa
