/- Contracts of near and l7Near. Printed by gen_near.py. -/
import Derived.Test.YtbaahghfjmkeoaaKdSpent
import Derived.Test.YtbaahghfjmkeoaaKdPut2
import Derived.BigQuiet
import Derived.Deep.OwnRows
set_option linter.unusedVariables false
set_option linter.unusedSimpArgs false
namespace Go.KD
open Go.RowKit
def againV : Value → Nat
  | .bool true => 1
  | _ => 0
theorem nearD_eq {ds : List D3} {O c k xn yn : Nat} {z : Int} (h : ds[k]! = ((xn : Int), (yn : Int), z)) : nearD ds O c k = if (decide (z = 0) || O.testBit k) && (c.testBit xn != c.testBit yn) then c ||| 2 ^ xn ||| 2 ^ yn else c := by
  unfold nearD openK
  rw [h]
  simp only [Int.toNat_natCast, setN]
theorem and_two {c xn yn : Nat} (h : (c.testBit xn || c.testBit yn) = false) : c &&& (2 ^ xn ||| 2 ^ yn) = 0 := by
  rw [Bool.or_eq_false_iff] at h
  apply Nat.eq_of_testBit_eq
  intro i
  rw [Nat.testBit_and, Nat.testBit_or, Nat.testBit_two_pow, Nat.testBit_two_pow, Nat.zero_testBit]
  by_cases h1 : xn = i
  · subst h1; rw [h.1]; rfl
  · by_cases h2 : yn = i
    · subst h2; rw [h.2]; rfl
    · simp [h1, h2]
theorem and_two' {c xn yn : Nat} (h : (c.testBit xn || c.testBit yn) = true) : c &&& (2 ^ xn ||| 2 ^ yn) ≠ 0 := by
  intro h0
  have key : ∀ i, (xn = i ∨ yn = i) → c.testBit i = true → False := by
    intro i hi hc
    have : (c &&& (2 ^ xn ||| 2 ^ yn)).testBit i = true := by
      rw [Nat.testBit_and, Nat.testBit_or, Nat.testBit_two_pow, Nat.testBit_two_pow, hc]
      rcases hi with hi | hi <;> simp [hi]
    rw [h0] at this
    simp at this
  rw [Bool.or_eq_true] at h
  rcases h with h | h
  · exact key xn (.inl rfl) h
  · exact key yn (.inr rfl) h
theorem sub_two (c xn yn : Nat) : subB (2 ^ xn ||| 2 ^ yn) c = (c.testBit xn && c.testBit yn) := by
  rw [Bool.eq_iff_iff, subB_iff, Bool.and_eq_true]
  constructor
  · intro h
    exact ⟨h xn (by rw [Nat.testBit_or, Nat.testBit_two_pow]; simp), h yn (by rw [Nat.testBit_or, Nat.testBit_two_pow, Nat.testBit_two_pow]; simp)⟩
  · intro h i hi
    rw [Nat.testBit_or, Nat.testBit_two_pow, Nat.testBit_two_pow, Bool.or_eq_true, decide_eq_true_eq, decide_eq_true_eq] at hi
    rcases hi with hi | hi
    · rw [← hi]; exact h.1
    · rw [← hi]; exact h.2
theorem passK_grew {ds : List D3} {O A k : Nat} (h : passK ds O A (k + 1) ≠ passK ds O A k) : passK ds O A (k + 1) ≠ A := by
  have h1 := sub_le (passK_sub ds O A k)
  have h2 := sub_le (passK_sub2 ds O A k 1)
  omega
theorem grew_two {c xn yn : Nat} (h : (c.testBit xn != c.testBit yn) = true) : c ||| 2 ^ xn ||| 2 ^ yn ≠ c := by
  intro h0
  have hx : (c ||| 2 ^ xn ||| 2 ^ yn).testBit xn = true := by rw [Nat.testBit_or, Nat.testBit_or, Nat.testBit_two_pow]; simp
  have hy : (c ||| 2 ^ xn ||| 2 ^ yn).testBit yn = true := by rw [Nat.testBit_or, Nat.testBit_two_pow]; simp
  rw [h0] at hx hy
  rw [hx, hy] at h
  simp at h
theorem hasI_bitZ {O y : Nat} (hO : O < 4096) : hasI (mem O) (y : Int) = O.testBit y := by
  rw [Bool.eq_iff_iff, hasI_iff, in_mem]
  constructor
  · rintro ⟨i, _, hi, he⟩
    have : y = i := by omega
    rw [this]; exact hi
  · intro h
    exact ⟨y, by have := bit_lt (n := 12) hO h; omega, h, rfl⟩
theorem put_memZ {O y : Nat} (hy : y < 12) : putL (mem O) (y : Int) = mem (O ||| 2 ^ y) := put_mem [] (.inl rfl) O y (by omega)
end Go.KD
namespace Go.Proofs.Ytbaahghfjmkeoaa
open Go.RowKit Go.KD
attribute [local go_sem] later_cell later_frozen
set_option maxRecDepth 100000 in
set_option maxHeartbeats 16000000 in
theorem near_c (v : Value) (m : Mz) (O : Nat) (w : World) (hm : MzAt w v m) (ok : MzOk m) (hO : O < 1073741824) : Calls Try.prog 95 #[v, .int .i64 O] w fun e w' => e = .returned (.int .i64 (nearN m O)) ∧ Below w.heap.size w w' := by
  have hM := hm
  obtain ⟨⟨ad, cd, ak, ck, rfl, hd, hk'⟩, nd, nk⟩ := hM
  obtain ⟨i0, ji, jz0, jz1, jz2⟩ := info_parts infoI
  have hng : m.doors.length ≤ 30 := ok.nd
  have HIN : Hid (∀ j, InM m (nearK m O j)) := fun j => nearK_in ok O j
  have HPI : Hid (∀ A k, InM m A → k ≤ m.doors.length → InM m (passK m.doors O A k)) := fun A k h hk => passK_in ok O h k hk
  have OK := Lib.hid ok; clear ok
  go_enter Try.func95, Try.ntmps95
  go_wp2
  go_loopw [5, 6] (fun o a wr => ∃ (j : Nat) (b : Bool), o = .int .i64 (nearK m O j : Nat) ∧ a = .bool b ∧ Hid (b = false → passN m O (nearK m O j) = nearK m O j) ∧ Hid (j ≤ nearK m O j) ∧ Below (w.heap.size + 1) (w.alloc (.cells #[.int .i64 m.size, .slice ad m.doors.length cd, .slice ak m.keys.length ck] 29)) wr) (fun o a _ => 2 * (4096 - (intOf o).toNat) + againV a)
  case atStart => exact ⟨0, true, rfl, rfl, (fun h => by cases h), Nat.zero_le _, Below.refl _ _⟩
  case round =>
    obtain ⟨wo, rfl⟩ : ∃ wo : World, wo = wr := ⟨_, rfl⟩
    obtain ⟨j, b, rfl, rfl, HB0, HJ, hb⟩ := hrel
    have HBo := Lib.hid hb
    have HAI := Lib.hid (HIN.out j)
    have hA := (HIN.out j).lt OK.out
    obtain ⟨q0, q1, q2, z1⟩ := box3 hb (by omega)
    clear hb
    cases b
    case false =>
      have HE : Hid (nearN m O = nearK m O j) := nearN_eq (by have := HJ.out; omega) (HB0.out rfl)
      go_wp2
      go_ret
      rw [HE.out]
      exact ⟨rfl, below_box HBo.out (by omega)⟩
    case true =>
      have HNX : Hid (passN m O (nearK m O j) = nearK m O (j + 1)) := rfl
      have HPN : Hid (passK m.doors O (nearK m O j) m.doors.length = passN m O (nearK m O j)) := rfl
      obtain ⟨A, hAe⟩ : ∃ A, A = nearK m O j := ⟨_, rfl⟩
      rw [← hAe] at HAI hA HNX HPN HJ ⊢
      have HAE := Lib.hid hAe
      clear hAe HB0
      go_wp2
      go_loopw [5, 6, 14] (fun o a i wr => ∃ k : Nat, k ≤ m.doors.length ∧ i = .int .i64 k ∧ o = .int .i64 (passK m.doors O A k : Nat) ∧ a = .bool (decide (passK m.doors O A k ≠ A)) ∧ Below (w.heap.size + 1) (w.alloc (.cells #[.int .i64 m.size, .slice ad m.doors.length cd, .slice ak m.keys.length ck] 29)) wr) (fun _ _ i _ => m.doors.length - (intOf i).toNat)
      case atStart => exact ⟨0, Nat.zero_le _, rfl, rfl, by simp [passK], HBo.out⟩
      case round =>
        obtain ⟨wi, rfl⟩ : ∃ wi : World, wi = wr := ⟨_, rfl⟩
        obtain ⟨k, hk, rfl, rfl, rfl, hb⟩ := hrel
        have HBi := Lib.hid hb
        have HBw := Lib.hid (below_box hb (by omega))
        have hzi := hb.size
        simp only [World.size_alloc] at hzi
        clear hb
        have hc := (HPI.out A k HAI.out hk).lt OK.out
        by_cases hlt : k < m.doors.length
        · have hkI : (k : Int) < (m.doors.length : Int) := by omega
          obtain ⟨b, off, x0, y0, z0, hadx, HX, hbs, e0, e1, e2⟩ := (hd.later HBw.out).at k hlt
          subst hadx
          obtain ⟨f1, f2, f3, f4, f5⟩ := door_facts OK.out hlt HX.out
          obtain ⟨xn, rfl⟩ := Int.eq_ofNat_of_zero_le f1
          obtain ⟨yn, rfl⟩ := Int.eq_ofNat_of_zero_le (show 0 ≤ y0 by omega)
          obtain ⟨zn, rfl⟩ := Int.eq_ofNat_of_zero_le f4
          have hs2 : m.size ≤ 12 := OK.out.s2
          obtain ⟨p, HP, ep, hp⟩ := shl_at xn (by omega)
          obtain ⟨q, HQ, eq, hq⟩ := shl_at yn (by omega)
          have hx0 : (xn : Int) < 12 := by omega
          have hy0 : (yn : Int) < 12 := by omega
          have HN : Hid (passK m.doors O A (k + 1) = if (decide ((zn : Int) = 0) || O.testBit k) && ((passK m.doors O A k).testBit xn != (passK m.doors O A k).testBit yn) then passK m.doors O A k ||| 2 ^ xn ||| 2 ^ yn else passK m.doors O A k) := nearD_eq HX.out
          have HGR : Hid (passK m.doors O A (k + 1) ≠ passK m.doors O A k → passK m.doors O A (k + 1) ≠ A) := passK_grew
          have HSB : Hid (subB (p ||| q) (passK m.doors O A k) = ((passK m.doors O A k).testBit xn && (passK m.doors O A k).testBit yn)) := by show _ = _; rw [HP.out, HQ.out]; exact sub_two _ _ _
          have HZ0 : Hid (((passK m.doors O A k).testBit xn || (passK m.doors O A k).testBit yn) = false → passK m.doors O A k &&& (p ||| q) = 0) := by rw [HP.out, HQ.out]; exact and_two
          have HZ1 : Hid (((passK m.doors O A k).testBit xn || (passK m.doors O A k).testBit yn) = true → passK m.doors O A k &&& (p ||| q) ≠ 0) := by rw [HP.out, HQ.out]; exact and_two'
          have HOR : Hid (passK m.doors O A k ||| 2 ^ xn ||| 2 ^ yn = passK m.doors O A k ||| (p ||| q)) := by show _ = _; rw [HP.out, HQ.out, Nat.or_assoc]
          have HG2 : Hid (((passK m.doors O A k).testBit xn != (passK m.doors O A k).testBit yn) = true → passK m.doors O A k ||| 2 ^ xn ||| 2 ^ yn ≠ passK m.doors O A k) := grew_two
          obtain ⟨c, hce⟩ : ∃ c, c = passK m.doors O A k := ⟨_, rfl⟩
          rw [← hce] at hc HN HGR HSB HZ0 HZ1 HOR HG2 ⊢
          have HCE := Lib.hid hce
          clear hce
          have hpq : p ||| q < 4096 := Nat.or_lt_two_pow (n := 12) hp hq
          have eo : bits .or .i64 (p : Int) (q : Int) = ((p ||| q : Nat) : Int) := i64_or p q (by omega) (by omega)
          obtain ⟨bN, hbN⟩ : ∃ bN, bN = p ||| q := ⟨_, rfl⟩
          rw [← hbN] at hpq eo HSB HZ0 HZ1 HOR
          have hcb : c ||| bN < 4096 := Nat.or_lt_two_pow (n := 12) hc hpq
          have ea : bits .and .i64 (c : Int) (bN : Int) = ((c &&& bN : Nat) : Int) := i64_and c bN (by omega) (by omega)
          have er : bits .or .i64 (c : Int) (bN : Int) = ((c ||| bN : Nat) : Int) := i64_or c bN (by omega) (by omega)
          obtain ⟨tN, htN⟩ : ∃ tN, tN = c &&& bN := ⟨_, rfl⟩
          rw [← htN] at ea HZ0 HZ1
          obtain ⟨uN, huN⟩ : ∃ uN, uN = c ||| bN := ⟨_, rfl⟩
          rw [← huN] at er hcb HOR
          clear hbN htN huN
          obtain ⟨y, HY, ey⟩ := shr_at O k
          have hy : y < 1099511627776 := by
            have := HY.out; rw [Nat.shiftRight_eq_div_pow] at *; have := Nat.div_le_self O (2 ^ k); omega
          have eb : bits .and .i64 (y : Int) 1 = ((y % 2 : Nat) : Int) := and1 hy
          have hb1 := bit_shr O k
          rw [← HY.out] at hb1
          rw [hb1] at eb
          clear hb1 hy
          obtain ⟨pa, hpa⟩ : ∃ pa, pa = c.testBit xn := ⟨_, rfl⟩
          obtain ⟨pb, hpb⟩ : ∃ pb, pb = c.testBit yn := ⟨_, rfl⟩
          rw [← hpa, ← hpb] at HN HSB HZ0 HZ1 HG2
          obtain ⟨ob, hob⟩ : ∃ ob, ob = O.testBit k := ⟨_, rfl⟩
          rw [← hob] at HN eb
          clear hpa hpb hob q0 q1 q2
          obtain ⟨q0, q1, q2, z3⟩ := box3 HBi.out (by omega)
          have hzw : w.heap.size + 1 ≤ wi.heap.size := by omega
          have hk63 : (k : Int) < 64 := by omega
          have HBF : Hid (∀ n, Below (w.heap.size + 1) (w.alloc (.cells #[.int .i64 m.size, .slice (some ⟨b, off, none⟩) m.doors.length cd, .slice ak m.keys.length ck] 29)) ((wi.alloc (.cells #[.int .i64 xn, .int .i64 yn, .int .i64 zn] 55)).drewN n)) := fun n => below_drewN (HBi.out.alloc hzw _) n
          by_cases hz0 : zn = 0
          case pos =>
            subst hz0
            cases pa
            case false =>
              cases pb
              case false =>
                have ht0 := HZ0.out rfl
                subst ht0
                have HS : Hid (passK m.doors O A (k + 1) = c) := by show _ = _; rw [HN.out]; simp
                have HDC : Hid ((!decide (c = A)) = decide (passK m.doors O A (k + 1) ≠ A)) := by show _ = _; rw [HS.out]; simp
                go_wp2
                go_quiet (fail)
                go_wp2
                go_roundw
                case rel => exact ⟨k + 1, by omega, by go_num, by rw [HS.out], by first | exact congrArg Value.bool HDC.out | rw [HS.out], HBF.out _⟩
                case measure => simp [intOf]; omega
              case true =>
                have ht0 : (tN : Int) ≠ 0 := by have := HZ1.out rfl; omega
                have HS : Hid (passK m.doors O A (k + 1) = uN) := by show _ = _; rw [HN.out, HOR.out]; simp
                have HNE : Hid (uN ≠ A) := by
                  have h1 := HG2.out rfl
                  have h2 := HGR.out (by rw [HS.out, ← HOR.out]; exact h1)
                  rw [HS.out] at h2; exact h2
                have HDC : Hid (decide (uN ≠ A) = true) := decide_eq_true HNE.out
                go_wp2
                go_quiet (fail)
                go_wp2_with (go_at_call 122; refine (has_c _ _ (by omega) _).mono ?_; rintro e w2 ⟨rfl, rfl⟩; rw [HSB.out])
                go_roundw
                case rel => exact ⟨k + 1, by omega, by go_num, by rw [HS.out], by rw [HS.out, HDC.out], HBF.out _⟩
                case measure => simp [intOf]; omega
            case true =>
              cases pb
              case false =>
                have ht0 : (tN : Int) ≠ 0 := by have := HZ1.out rfl; omega
                have HS : Hid (passK m.doors O A (k + 1) = uN) := by show _ = _; rw [HN.out, HOR.out]; simp
                have HNE : Hid (uN ≠ A) := by
                  have h1 := HG2.out rfl
                  have h2 := HGR.out (by rw [HS.out, ← HOR.out]; exact h1)
                  rw [HS.out] at h2; exact h2
                have HDC : Hid (decide (uN ≠ A) = true) := decide_eq_true HNE.out
                go_wp2
                go_quiet (fail)
                go_wp2_with (go_at_call 122; refine (has_c _ _ (by omega) _).mono ?_; rintro e w2 ⟨rfl, rfl⟩; rw [HSB.out])
                go_roundw
                case rel => exact ⟨k + 1, by omega, by go_num, by rw [HS.out], by rw [HS.out, HDC.out], HBF.out _⟩
                case measure => simp [intOf]; omega
              case true =>
                have ht0 : (tN : Int) ≠ 0 := by have := HZ1.out rfl; omega
                have HS : Hid (passK m.doors O A (k + 1) = c) := by show _ = _; rw [HN.out]; simp
                have HDC : Hid ((!decide (c = A)) = decide (passK m.doors O A (k + 1) ≠ A)) := by show _ = _; rw [HS.out]; simp
                go_wp2
                go_quiet (fail)
                go_wp2_with (go_at_call 122; refine (has_c _ _ (by omega) _).mono ?_; rintro e w2 ⟨rfl, rfl⟩; rw [HSB.out])
                go_roundw
                case rel => exact ⟨k + 1, by omega, by go_num, by rw [HS.out], by first | exact congrArg Value.bool HDC.out | rw [HS.out], HBF.out _⟩
                case measure => simp [intOf]; omega
          case neg =>
            have hzI : (zn : Int) ≠ 0 := by omega
            have HZN := Lib.hid hz0
            clear hz0
            cases ob
            case false =>
              simp only [Bool.false_eq_true, if_false] at eb
              have HS : Hid (passK m.doors O A (k + 1) = c) := by show _ = _; rw [HN.out]; simp [HZN.out]
              have HDC : Hid ((!decide (c = A)) = decide (passK m.doors O A (k + 1) ≠ A)) := by show _ = _; rw [HS.out]; simp
              go_wp2
              go_quiet (fail)
              go_wp2
              go_roundw
              case rel => exact ⟨k + 1, by omega, by go_num, by rw [HS.out], by first | exact congrArg Value.bool HDC.out | rw [HS.out], HBF.out _⟩
              case measure => simp [intOf]; omega
            case true =>
              simp only [if_true] at eb
              cases pa
              case false =>
                cases pb
                case false =>
                  have ht0 := HZ0.out rfl
                  subst ht0
                  have HS : Hid (passK m.doors O A (k + 1) = c) := by show _ = _; rw [HN.out]; simp [HZN.out]
                  have HDC : Hid ((!decide (c = A)) = decide (passK m.doors O A (k + 1) ≠ A)) := by show _ = _; rw [HS.out]; simp
                  go_wp2
                  go_quiet (fail)
                  go_wp2
                  go_roundw
                  case rel => exact ⟨k + 1, by omega, by go_num, by rw [HS.out], by first | exact congrArg Value.bool HDC.out | rw [HS.out], HBF.out _⟩
                  case measure => simp [intOf]; omega
                case true =>
                  have ht0 : (tN : Int) ≠ 0 := by have := HZ1.out rfl; omega
                  have HS : Hid (passK m.doors O A (k + 1) = uN) := by show _ = _; rw [HN.out, HOR.out]; simp [HZN.out]
                  have HNE : Hid (uN ≠ A) := by
                    have h1 := HG2.out rfl
                    have h2 := HGR.out (by rw [HS.out, ← HOR.out]; exact h1)
                    rw [HS.out] at h2; exact h2
                  have HDC : Hid (decide (uN ≠ A) = true) := decide_eq_true HNE.out
                  go_wp2
                  go_quiet (fail)
                  go_wp2_with (go_at_call 122; refine (has_c _ _ (by omega) _).mono ?_; rintro e w2 ⟨rfl, rfl⟩; rw [HSB.out])
                  go_roundw
                  case rel => exact ⟨k + 1, by omega, by go_num, by rw [HS.out], by rw [HS.out, HDC.out], HBF.out _⟩
                  case measure => simp [intOf]; omega
              case true =>
                cases pb
                case false =>
                  have ht0 : (tN : Int) ≠ 0 := by have := HZ1.out rfl; omega
                  have HS : Hid (passK m.doors O A (k + 1) = uN) := by show _ = _; rw [HN.out, HOR.out]; simp [HZN.out]
                  have HNE : Hid (uN ≠ A) := by
                    have h1 := HG2.out rfl
                    have h2 := HGR.out (by rw [HS.out, ← HOR.out]; exact h1)
                    rw [HS.out] at h2; exact h2
                  have HDC : Hid (decide (uN ≠ A) = true) := decide_eq_true HNE.out
                  go_wp2
                  go_quiet (fail)
                  go_wp2_with (go_at_call 122; refine (has_c _ _ (by omega) _).mono ?_; rintro e w2 ⟨rfl, rfl⟩; rw [HSB.out])
                  go_roundw
                  case rel => exact ⟨k + 1, by omega, by go_num, by rw [HS.out], by rw [HS.out, HDC.out], HBF.out _⟩
                  case measure => simp [intOf]; omega
                case true =>
                  have ht0 : (tN : Int) ≠ 0 := by have := HZ1.out rfl; omega
                  have HS : Hid (passK m.doors O A (k + 1) = c) := by show _ = _; rw [HN.out]; simp [HZN.out]
                  have HDC : Hid ((!decide (c = A)) = decide (passK m.doors O A (k + 1) ≠ A)) := by show _ = _; rw [HS.out]; simp
                  go_wp2
                  go_quiet (fail)
                  go_wp2_with (go_at_call 122; refine (has_c _ _ (by omega) _).mono ?_; rintro e w2 ⟨rfl, rfl⟩; rw [HSB.out])
                  go_roundw
                  case rel => exact ⟨k + 1, by omega, by go_num, by rw [HS.out], by first | exact congrArg Value.bool HDC.out | rw [HS.out], HBF.out _⟩
                  case measure => simp [intOf]; omega
        · obtain rfl : k = m.doors.length := by omega
          rw [HPN.out]
          clear q0 q1 q2
          obtain ⟨q0, q1, q2, z3⟩ := box3 HBi.out (by omega)
          go_wp2
          by_cases he : passN m O A = A
          case pos =>
            have HE := Lib.hid he
            go_roundw
            case rel => exact ⟨j, decide (passN m O A ≠ A), by rw [← HAE.out, HE.out], by first | rfl | (rw [HE.out]; simp), fun _ => by rw [← HAE.out]; exact HE.out, by rw [← HAE.out]; exact HJ.out, HBi.out⟩
            case measure => simp [intOf, againV, HE.out]
          case neg =>
            have hgt := passN_grows he
            have HGT := Lib.hid hgt
            have HE := Lib.hid he
            have hpl : passN m O A < 4096 := by rw [← HPN.out]; exact (HPI.out A _ HAI.out (Nat.le_refl _)).lt OK.out
            go_roundw
            case rel => exact ⟨j + 1, decide (passN m O A ≠ A), by rw [HNX.out], rfl, fun h => absurd (of_decide_eq_false h) (fun h2 => h2 HE.out), by rw [← HNX.out]; have h1 := HJ.out; have h2 := HGT.out; show _ ≤ _; omega, HBi.out⟩
            case measure => simp [intOf, againV, HE.out]; omega
end Go.Proofs.Ytbaahghfjmkeoaa
