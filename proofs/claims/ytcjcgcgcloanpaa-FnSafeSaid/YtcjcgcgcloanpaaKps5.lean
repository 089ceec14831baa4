/- Contracts of near and l7Near. Printed by gen_near.py. Contract of l7Near. Printed by gen_near2.py. Rows of six counts. No program is named here. Contract of keysLeft. Printed by gen_left.py. -/
import Derived.Test.YtcjcgcgcloanpaaKps4
import Derived.BigQuiet
import Derived.Deep.OwnRows
set_option linter.unusedVariables false
set_option linter.unusedSimpArgs false
namespace Go.KD
open Go.RowKit
def againV : Value → Nat
  | .bool true => 1
  | _ => 0
theorem nearD_eq {ds : List D3} {O c k xn yn : Nat} {z : Int} (h : ds[k]! = ((xn : Int), (yn : Int), z)) : nearD ds O c k = if (decide (z = 0) || O.testBit k) && (c.testBit xn != c.testBit yn) then c ||| 2 ^ xn ||| 2 ^ yn else c := by
  unfold nearD openK
  rw [h]
  simp only [Int.toNat_natCast, setN]
theorem and_two {c xn yn : Nat} (h : (c.testBit xn || c.testBit yn) = false) : c &&& (2 ^ xn ||| 2 ^ yn) = 0 := by
  rw [Bool.or_eq_false_iff] at h
  apply Nat.eq_of_testBit_eq
  intro i
  rw [Nat.testBit_and, Nat.testBit_or, Nat.testBit_two_pow, Nat.testBit_two_pow, Nat.zero_testBit]
  by_cases h1 : xn = i
  · subst h1; rw [h.1]; rfl
  · by_cases h2 : yn = i
    · subst h2; rw [h.2]; rfl
    · simp [h1, h2]
theorem and_two' {c xn yn : Nat} (h : (c.testBit xn || c.testBit yn) = true) : c &&& (2 ^ xn ||| 2 ^ yn) ≠ 0 := by
  intro h0
  have key : ∀ i, (xn = i ∨ yn = i) → c.testBit i = true → False := by
    intro i hi hc
    have : (c &&& (2 ^ xn ||| 2 ^ yn)).testBit i = true := by
      rw [Nat.testBit_and, Nat.testBit_or, Nat.testBit_two_pow, Nat.testBit_two_pow, hc]
      rcases hi with hi | hi <;> simp [hi]
    rw [h0] at this
    simp at this
  rw [Bool.or_eq_true] at h
  rcases h with h | h
  · exact key xn (.inl rfl) h
  · exact key yn (.inr rfl) h
theorem sub_two (c xn yn : Nat) : subB (2 ^ xn ||| 2 ^ yn) c = (c.testBit xn && c.testBit yn) := by
  rw [Bool.eq_iff_iff, subB_iff, Bool.and_eq_true]
  constructor
  · intro h
    exact ⟨h xn (by rw [Nat.testBit_or, Nat.testBit_two_pow]; simp), h yn (by rw [Nat.testBit_or, Nat.testBit_two_pow, Nat.testBit_two_pow]; simp)⟩
  · intro h i hi
    rw [Nat.testBit_or, Nat.testBit_two_pow, Nat.testBit_two_pow, Bool.or_eq_true, decide_eq_true_eq, decide_eq_true_eq] at hi
    rcases hi with hi | hi
    · rw [← hi]; exact h.1
    · rw [← hi]; exact h.2
theorem passK_grew {ds : List D3} {O A k : Nat} (h : passK ds O A (k + 1) ≠ passK ds O A k) : passK ds O A (k + 1) ≠ A := by
  have h1 := sub_le (passK_sub ds O A k)
  have h2 := sub_le (passK_sub2 ds O A k 1)
  omega
theorem grew_two {c xn yn : Nat} (h : (c.testBit xn != c.testBit yn) = true) : c ||| 2 ^ xn ||| 2 ^ yn ≠ c := by
  intro h0
  have hx : (c ||| 2 ^ xn ||| 2 ^ yn).testBit xn = true := by rw [Nat.testBit_or, Nat.testBit_or, Nat.testBit_two_pow]; simp
  have hy : (c ||| 2 ^ xn ||| 2 ^ yn).testBit yn = true := by rw [Nat.testBit_or, Nat.testBit_two_pow]; simp
  rw [h0] at hx hy
  rw [hx, hy] at h
  simp at h
theorem hasI_bitZ {O y : Nat} (hO : O < 4096) : hasI (mem O) (y : Int) = O.testBit y := by
  rw [Bool.eq_iff_iff, hasI_iff, in_mem]
  constructor
  · rintro ⟨i, _, hi, he⟩
    have : y = i := by omega
    rw [this]; exact hi
  · intro h
    exact ⟨y, by have := bit_lt (n := 12) hO h; omega, h, rfl⟩
theorem put_memZ {O y : Nat} (hy : y < 12) : putL (mem O) (y : Int) = mem (O ||| 2 ^ y) := put_mem [] (.inl rfl) O y (by omega)
end Go.KD
namespace Go.Proofs.Ytcjcgcgcloanpaa
open Go.RowKit Go.KD
attribute [local go_sem] later_cell later_frozen
set_option maxRecDepth 100000 in
set_option maxHeartbeats 16000000 in
theorem near_c (v : Value) (m : Mz) (O : Nat) (w : World) (hm : MzAt w v m) (ok : MzOk m) (hO : O < 1073741824) : Calls Try.prog 78 #[v, .int .i64 O] w fun e w' => e = .returned (.int .i64 (nearN m O)) ∧ Below w.heap.size w w' := by
  have hM := hm
  obtain ⟨⟨ad, cd, ak, ck, rfl, hd, hk'⟩, nd, nk⟩ := hM
  obtain ⟨i0, ji, jz0, jz1, jz2⟩ := info_parts infoI
  have hng : m.doors.length ≤ 30 := ok.nd
  have HIN : Hid (∀ j, InM m (nearK m O j)) := fun j => nearK_in ok O j
  have HPI : Hid (∀ A k, InM m A → k ≤ m.doors.length → InM m (passK m.doors O A k)) := fun A k h hk => passK_in ok O h k hk
  have OK := Lib.hid ok; clear ok
  go_enter Try.func78, Try.ntmps78
  go_wp2
  go_loopw [5, 6] (fun o a wr => ∃ (j : Nat) (b : Bool), o = .int .i64 (nearK m O j : Nat) ∧ a = .bool b ∧ Hid (b = false → passN m O (nearK m O j) = nearK m O j) ∧ Hid (j ≤ nearK m O j) ∧ Below (w.heap.size + 1) (w.alloc (.cells #[.int .i64 m.size, .slice ad m.doors.length cd, .slice ak m.keys.length ck] 27)) wr) (fun o a _ => 2 * (4096 - (intOf o).toNat) + againV a)
  case atStart => exact ⟨0, true, rfl, rfl, (fun h => by cases h), Nat.zero_le _, Below.refl _ _⟩
  case round =>
    obtain ⟨wo, rfl⟩ : ∃ wo : World, wo = wr := ⟨_, rfl⟩
    obtain ⟨j, b, rfl, rfl, HB0, HJ, hb⟩ := hrel
    have HBo := Lib.hid hb
    have HAI := Lib.hid (HIN.out j)
    have hA := (HIN.out j).lt OK.out
    obtain ⟨q0, q1, q2, z1⟩ := box3 hb (by omega)
    clear hb
    cases b
    case false =>
      have HE : Hid (nearN m O = nearK m O j) := nearN_eq (by have := HJ.out; omega) (HB0.out rfl)
      go_wp2
      go_ret
      rw [HE.out]
      exact ⟨rfl, below_box HBo.out (by omega)⟩
    case true =>
      have HNX : Hid (passN m O (nearK m O j) = nearK m O (j + 1)) := rfl
      have HPN : Hid (passK m.doors O (nearK m O j) m.doors.length = passN m O (nearK m O j)) := rfl
      obtain ⟨A, hAe⟩ : ∃ A, A = nearK m O j := ⟨_, rfl⟩
      rw [← hAe] at HAI hA HNX HPN HJ ⊢
      have HAE := Lib.hid hAe
      clear hAe HB0
      go_wp2
      go_loopw [5, 6, 14] (fun o a i wr => ∃ k : Nat, k ≤ m.doors.length ∧ i = .int .i64 k ∧ o = .int .i64 (passK m.doors O A k : Nat) ∧ a = .bool (decide (passK m.doors O A k ≠ A)) ∧ Below (w.heap.size + 1) (w.alloc (.cells #[.int .i64 m.size, .slice ad m.doors.length cd, .slice ak m.keys.length ck] 27)) wr) (fun _ _ i _ => m.doors.length - (intOf i).toNat)
      case atStart => exact ⟨0, Nat.zero_le _, rfl, rfl, by simp [passK], HBo.out⟩
      case round =>
        obtain ⟨wi, rfl⟩ : ∃ wi : World, wi = wr := ⟨_, rfl⟩
        obtain ⟨k, hk, rfl, rfl, rfl, hb⟩ := hrel
        have HBi := Lib.hid hb
        have HBw := Lib.hid (below_box hb (by omega))
        have hzi := hb.size
        simp only [World.size_alloc] at hzi
        clear hb
        have hc := (HPI.out A k HAI.out hk).lt OK.out
        by_cases hlt : k < m.doors.length
        · have hkI : (k : Int) < (m.doors.length : Int) := by omega
          obtain ⟨b, off, x0, y0, z0, hadx, HX, hbs, e0, e1, e2⟩ := (hd.later HBw.out).at k hlt
          subst hadx
          obtain ⟨f1, f2, f3, f4, f5⟩ := door_facts OK.out hlt HX.out
          obtain ⟨xn, rfl⟩ := Int.eq_ofNat_of_zero_le f1
          obtain ⟨yn, rfl⟩ := Int.eq_ofNat_of_zero_le (show 0 ≤ y0 by omega)
          obtain ⟨zn, rfl⟩ := Int.eq_ofNat_of_zero_le f4
          have hs2 : m.size ≤ 12 := OK.out.s2
          obtain ⟨p, HP, ep, hp⟩ := shl_at xn (by omega)
          obtain ⟨q, HQ, eq, hq⟩ := shl_at yn (by omega)
          have hx0 : (xn : Int) < 12 := by omega
          have hy0 : (yn : Int) < 12 := by omega
          have HN : Hid (passK m.doors O A (k + 1) = if (decide ((zn : Int) = 0) || O.testBit k) && ((passK m.doors O A k).testBit xn != (passK m.doors O A k).testBit yn) then passK m.doors O A k ||| 2 ^ xn ||| 2 ^ yn else passK m.doors O A k) := nearD_eq HX.out
          have HGR : Hid (passK m.doors O A (k + 1) ≠ passK m.doors O A k → passK m.doors O A (k + 1) ≠ A) := passK_grew
          have HSB : Hid (subB (p ||| q) (passK m.doors O A k) = ((passK m.doors O A k).testBit xn && (passK m.doors O A k).testBit yn)) := by show _ = _; rw [HP.out, HQ.out]; exact sub_two _ _ _
          have HZ0 : Hid (((passK m.doors O A k).testBit xn || (passK m.doors O A k).testBit yn) = false → passK m.doors O A k &&& (p ||| q) = 0) := by rw [HP.out, HQ.out]; exact and_two
          have HZ1 : Hid (((passK m.doors O A k).testBit xn || (passK m.doors O A k).testBit yn) = true → passK m.doors O A k &&& (p ||| q) ≠ 0) := by rw [HP.out, HQ.out]; exact and_two'
          have HOR : Hid (passK m.doors O A k ||| 2 ^ xn ||| 2 ^ yn = passK m.doors O A k ||| (p ||| q)) := by show _ = _; rw [HP.out, HQ.out, Nat.or_assoc]
          have HG2 : Hid (((passK m.doors O A k).testBit xn != (passK m.doors O A k).testBit yn) = true → passK m.doors O A k ||| 2 ^ xn ||| 2 ^ yn ≠ passK m.doors O A k) := grew_two
          obtain ⟨c, hce⟩ : ∃ c, c = passK m.doors O A k := ⟨_, rfl⟩
          rw [← hce] at hc HN HGR HSB HZ0 HZ1 HOR HG2 ⊢
          have HCE := Lib.hid hce
          clear hce
          have hpq : p ||| q < 4096 := Nat.or_lt_two_pow (n := 12) hp hq
          have eo : bits .or .i64 (p : Int) (q : Int) = ((p ||| q : Nat) : Int) := i64_or p q (by omega) (by omega)
          obtain ⟨bN, hbN⟩ : ∃ bN, bN = p ||| q := ⟨_, rfl⟩
          rw [← hbN] at hpq eo HSB HZ0 HZ1 HOR
          have hcb : c ||| bN < 4096 := Nat.or_lt_two_pow (n := 12) hc hpq
          have ea : bits .and .i64 (c : Int) (bN : Int) = ((c &&& bN : Nat) : Int) := i64_and c bN (by omega) (by omega)
          have er : bits .or .i64 (c : Int) (bN : Int) = ((c ||| bN : Nat) : Int) := i64_or c bN (by omega) (by omega)
          obtain ⟨tN, htN⟩ : ∃ tN, tN = c &&& bN := ⟨_, rfl⟩
          rw [← htN] at ea HZ0 HZ1
          obtain ⟨uN, huN⟩ : ∃ uN, uN = c ||| bN := ⟨_, rfl⟩
          rw [← huN] at er hcb HOR
          clear hbN htN huN
          obtain ⟨y, HY, ey⟩ := shr_at O k
          have hy : y < 1099511627776 := by
            have := HY.out; rw [Nat.shiftRight_eq_div_pow] at *; have := Nat.div_le_self O (2 ^ k); omega
          have eb : bits .and .i64 (y : Int) 1 = ((y % 2 : Nat) : Int) := and1 hy
          have hb1 := bit_shr O k
          rw [← HY.out] at hb1
          rw [hb1] at eb
          clear hb1 hy
          obtain ⟨pa, hpa⟩ : ∃ pa, pa = c.testBit xn := ⟨_, rfl⟩
          obtain ⟨pb, hpb⟩ : ∃ pb, pb = c.testBit yn := ⟨_, rfl⟩
          rw [← hpa, ← hpb] at HN HSB HZ0 HZ1 HG2
          obtain ⟨ob, hob⟩ : ∃ ob, ob = O.testBit k := ⟨_, rfl⟩
          rw [← hob] at HN eb
          clear hpa hpb hob q0 q1 q2
          obtain ⟨q0, q1, q2, z3⟩ := box3 HBi.out (by omega)
          have hzw : w.heap.size + 1 ≤ wi.heap.size := by omega
          have hk63 : (k : Int) < 64 := by omega
          have HBF : Hid (∀ n, Below (w.heap.size + 1) (w.alloc (.cells #[.int .i64 m.size, .slice (some ⟨b, off, none⟩) m.doors.length cd, .slice ak m.keys.length ck] 27)) ((wi.alloc (.cells #[.int .i64 xn, .int .i64 yn, .int .i64 zn] 39)).drewN n)) := fun n => below_drewN (HBi.out.alloc hzw _) n
          by_cases hz0 : zn = 0
          case pos =>
            subst hz0
            cases pa
            case false =>
              cases pb
              case false =>
                have ht0 := HZ0.out rfl
                subst ht0
                have HS : Hid (passK m.doors O A (k + 1) = c) := by show _ = _; rw [HN.out]; simp
                have HDC : Hid ((!decide (c = A)) = decide (passK m.doors O A (k + 1) ≠ A)) := by show _ = _; rw [HS.out]; simp
                go_wp2
                go_quiet (fail)
                go_wp2
                go_roundw
                case rel => exact ⟨k + 1, by omega, by go_num, by rw [HS.out], by first | exact congrArg Value.bool HDC.out | rw [HS.out], HBF.out _⟩
                case measure => simp [intOf]; omega
              case true =>
                have ht0 : (tN : Int) ≠ 0 := by have := HZ1.out rfl; omega
                have HS : Hid (passK m.doors O A (k + 1) = uN) := by show _ = _; rw [HN.out, HOR.out]; simp
                have HNE : Hid (uN ≠ A) := by
                  have h1 := HG2.out rfl
                  have h2 := HGR.out (by rw [HS.out, ← HOR.out]; exact h1)
                  rw [HS.out] at h2; exact h2
                have HDC : Hid (decide (uN ≠ A) = true) := decide_eq_true HNE.out
                go_wp2
                go_quiet (fail)
                go_wp2_with (go_at_call 148; refine (has_c _ _ (by omega) _).mono ?_; rintro e w2 ⟨rfl, rfl⟩; rw [HSB.out])
                go_roundw
                case rel => exact ⟨k + 1, by omega, by go_num, by rw [HS.out], by rw [HS.out, HDC.out], HBF.out _⟩
                case measure => simp [intOf]; omega
            case true =>
              cases pb
              case false =>
                have ht0 : (tN : Int) ≠ 0 := by have := HZ1.out rfl; omega
                have HS : Hid (passK m.doors O A (k + 1) = uN) := by show _ = _; rw [HN.out, HOR.out]; simp
                have HNE : Hid (uN ≠ A) := by
                  have h1 := HG2.out rfl
                  have h2 := HGR.out (by rw [HS.out, ← HOR.out]; exact h1)
                  rw [HS.out] at h2; exact h2
                have HDC : Hid (decide (uN ≠ A) = true) := decide_eq_true HNE.out
                go_wp2
                go_quiet (fail)
                go_wp2_with (go_at_call 148; refine (has_c _ _ (by omega) _).mono ?_; rintro e w2 ⟨rfl, rfl⟩; rw [HSB.out])
                go_roundw
                case rel => exact ⟨k + 1, by omega, by go_num, by rw [HS.out], by rw [HS.out, HDC.out], HBF.out _⟩
                case measure => simp [intOf]; omega
              case true =>
                have ht0 : (tN : Int) ≠ 0 := by have := HZ1.out rfl; omega
                have HS : Hid (passK m.doors O A (k + 1) = c) := by show _ = _; rw [HN.out]; simp
                have HDC : Hid ((!decide (c = A)) = decide (passK m.doors O A (k + 1) ≠ A)) := by show _ = _; rw [HS.out]; simp
                go_wp2
                go_quiet (fail)
                go_wp2_with (go_at_call 148; refine (has_c _ _ (by omega) _).mono ?_; rintro e w2 ⟨rfl, rfl⟩; rw [HSB.out])
                go_roundw
                case rel => exact ⟨k + 1, by omega, by go_num, by rw [HS.out], by first | exact congrArg Value.bool HDC.out | rw [HS.out], HBF.out _⟩
                case measure => simp [intOf]; omega
          case neg =>
            have hzI : (zn : Int) ≠ 0 := by omega
            have HZN := Lib.hid hz0
            clear hz0
            cases ob
            case false =>
              simp only [Bool.false_eq_true, if_false] at eb
              have HS : Hid (passK m.doors O A (k + 1) = c) := by show _ = _; rw [HN.out]; simp [HZN.out]
              have HDC : Hid ((!decide (c = A)) = decide (passK m.doors O A (k + 1) ≠ A)) := by show _ = _; rw [HS.out]; simp
              go_wp2
              go_quiet (fail)
              go_wp2
              go_roundw
              case rel => exact ⟨k + 1, by omega, by go_num, by rw [HS.out], by first | exact congrArg Value.bool HDC.out | rw [HS.out], HBF.out _⟩
              case measure => simp [intOf]; omega
            case true =>
              simp only [if_true] at eb
              cases pa
              case false =>
                cases pb
                case false =>
                  have ht0 := HZ0.out rfl
                  subst ht0
                  have HS : Hid (passK m.doors O A (k + 1) = c) := by show _ = _; rw [HN.out]; simp [HZN.out]
                  have HDC : Hid ((!decide (c = A)) = decide (passK m.doors O A (k + 1) ≠ A)) := by show _ = _; rw [HS.out]; simp
                  go_wp2
                  go_quiet (fail)
                  go_wp2
                  go_roundw
                  case rel => exact ⟨k + 1, by omega, by go_num, by rw [HS.out], by first | exact congrArg Value.bool HDC.out | rw [HS.out], HBF.out _⟩
                  case measure => simp [intOf]; omega
                case true =>
                  have ht0 : (tN : Int) ≠ 0 := by have := HZ1.out rfl; omega
                  have HS : Hid (passK m.doors O A (k + 1) = uN) := by show _ = _; rw [HN.out, HOR.out]; simp [HZN.out]
                  have HNE : Hid (uN ≠ A) := by
                    have h1 := HG2.out rfl
                    have h2 := HGR.out (by rw [HS.out, ← HOR.out]; exact h1)
                    rw [HS.out] at h2; exact h2
                  have HDC : Hid (decide (uN ≠ A) = true) := decide_eq_true HNE.out
                  go_wp2
                  go_quiet (fail)
                  go_wp2_with (go_at_call 148; refine (has_c _ _ (by omega) _).mono ?_; rintro e w2 ⟨rfl, rfl⟩; rw [HSB.out])
                  go_roundw
                  case rel => exact ⟨k + 1, by omega, by go_num, by rw [HS.out], by rw [HS.out, HDC.out], HBF.out _⟩
                  case measure => simp [intOf]; omega
              case true =>
                cases pb
                case false =>
                  have ht0 : (tN : Int) ≠ 0 := by have := HZ1.out rfl; omega
                  have HS : Hid (passK m.doors O A (k + 1) = uN) := by show _ = _; rw [HN.out, HOR.out]; simp [HZN.out]
                  have HNE : Hid (uN ≠ A) := by
                    have h1 := HG2.out rfl
                    have h2 := HGR.out (by rw [HS.out, ← HOR.out]; exact h1)
                    rw [HS.out] at h2; exact h2
                  have HDC : Hid (decide (uN ≠ A) = true) := decide_eq_true HNE.out
                  go_wp2
                  go_quiet (fail)
                  go_wp2_with (go_at_call 148; refine (has_c _ _ (by omega) _).mono ?_; rintro e w2 ⟨rfl, rfl⟩; rw [HSB.out])
                  go_roundw
                  case rel => exact ⟨k + 1, by omega, by go_num, by rw [HS.out], by rw [HS.out, HDC.out], HBF.out _⟩
                  case measure => simp [intOf]; omega
                case true =>
                  have ht0 : (tN : Int) ≠ 0 := by have := HZ1.out rfl; omega
                  have HS : Hid (passK m.doors O A (k + 1) = c) := by show _ = _; rw [HN.out]; simp [HZN.out]
                  have HDC : Hid ((!decide (c = A)) = decide (passK m.doors O A (k + 1) ≠ A)) := by show _ = _; rw [HS.out]; simp
                  go_wp2
                  go_quiet (fail)
                  go_wp2_with (go_at_call 148; refine (has_c _ _ (by omega) _).mono ?_; rintro e w2 ⟨rfl, rfl⟩; rw [HSB.out])
                  go_roundw
                  case rel => exact ⟨k + 1, by omega, by go_num, by rw [HS.out], by first | exact congrArg Value.bool HDC.out | rw [HS.out], HBF.out _⟩
                  case measure => simp [intOf]; omega
        · obtain rfl : k = m.doors.length := by omega
          rw [HPN.out]
          clear q0 q1 q2
          obtain ⟨q0, q1, q2, z3⟩ := box3 HBi.out (by omega)
          go_wp2
          by_cases he : passN m O A = A
          case pos =>
            have HE := Lib.hid he
            go_roundw
            case rel => exact ⟨j, decide (passN m O A ≠ A), by rw [← HAE.out, HE.out], by first | rfl | (rw [HE.out]; simp), fun _ => by rw [← HAE.out]; exact HE.out, by rw [← HAE.out]; exact HJ.out, HBi.out⟩
            case measure => simp [intOf, againV, HE.out]
          case neg =>
            have hgt := passN_grows he
            have HGT := Lib.hid hgt
            have HE := Lib.hid he
            have hpl : passN m O A < 4096 := by rw [← HPN.out]; exact (HPI.out A _ HAI.out (Nat.le_refl _)).lt OK.out
            go_roundw
            case rel => exact ⟨j + 1, decide (passN m O A ≠ A), by rw [HNX.out], rfl, fun h => absurd (of_decide_eq_false h) (fun h2 => h2 HE.out), by rw [← HNX.out]; have h1 := HJ.out; have h2 := HGT.out; show _ ≤ _; omega, HBi.out⟩
            case measure => simp [intOf, againV, HE.out]; omega
end Go.Proofs.Ytcjcgcgcloanpaa

namespace Go.KD
open Go.RowKit
/-- A sorted list of nodes in a fresh block. -/
def LM (base : Nat) (w : World) (u : Value) (X : Nat) : Prop :=
  ∃ bo oo co, u = .slice (some ⟨bo, oo, none⟩) (mem X).length co ∧ IC w (some ⟨bo, oo, none⟩) (mem X) ∧ (mem X).length ≤ co ∧ co ≤ maxLen ∧ base ≤ bo ∧ bo < w.heap.size
theorem LM.later {base : Nat} {w w' : World} {u : Value} {X : Nat} (h : LM base w u X) (hb : Below w.heap.size w w') : LM base w' u X := by
  obtain ⟨bo, oo, co, h1, h2, h3, h4, h5, h6⟩ := h
  exact ⟨bo, oo, co, h1, h2.later hb, h3, h4, h5, by have := hb.size; omega⟩
theorem memN_grow {A B : Nat} (h : SubN A B) (hne : A ≠ B) (hB : B < 4096) : (mem A).length < (mem B).length := by
  have he : memN A = (memN B).filter fun i => A.testBit i := by
    unfold memN
    rw [List.filter_filter]
    refine List.filter_congr fun i _ => ?_
    cases ha : A.testBit i
    · rfl
    · rw [h i ha]; rfl
  have hs : (memN A).Sublist (memN B) := by rw [he]; exact List.filter_sublist
  have hl := hs.length_le
  have hm : ∀ x, (mem x).length = (memN x).length := fun x => by simp [mem]
  rw [hm, hm]
  rcases Nat.lt_or_ge (memN A).length (memN B).length with h1 | h1
  · exact h1
  · exfalso
    have heq := hs.eq_of_length (by omega)
    refine hne (h.antisymm fun i hi => ?_)
    have hi12 := bit_lt (n := 12) hB hi
    have : i ∈ memN B := by unfold memN; rw [List.mem_filter]; exact ⟨List.mem_range.2 (by omega), hi⟩
    rw [← heq] at this
    unfold memN at this
    exact (List.mem_filter.1 this).2
theorem mem_len40z (x : Nat) : (mem x).length ≤ 40 := by rw [mem_eq]; exact memK_len _ _
def lenVn : Value → Nat
  | .slice _ n _ => n
  | _ => 0
end Go.KD
namespace Go.Proofs.Ytcjcgcgcloanpaa
open Go.RowKit Go.KD
attribute [local go_sem] later_cell later_frozen
set_option maxRecDepth 100000 in
set_option maxHeartbeats 16000000 in
theorem l7Near_c (v : Value) (m : Mz) (O : Nat) (aL : Option Addr) (cL : Nat) (L : List Int) (w : World) (hm : MzAt w v m) (ok : MzOk m) (hL : IC w aL L) (hLl : L.length ≤ 1048576) (hLO : ∀ k : Nat, k < m.doors.length → hasI L (k : Int) = O.testBit k) : Calls Try.prog 80 #[v, .slice aL L.length cL] w fun e w' => ∃ u, e = .returned u ∧ LM w.heap.size w' u (nearN m O) ∧ Below w.heap.size w w' := by
  have hM := hm
  obtain ⟨⟨ad, cd, ak, ck, rfl, hd, hk'⟩, nd, nk⟩ := hM
  obtain ⟨i0, ji, jz0, jz1, jz2⟩ := info_parts infoI
  have hng : m.doors.length ≤ 30 := ok.nd
  have HIN : Hid (∀ j, InM m (nearK m O j)) := fun j => nearK_in ok O j
  have HPI : Hid (∀ A k, InM m A → k ≤ m.doors.length → InM m (passK m.doors O A k)) := fun A k h hk => passK_in ok O h k hk
  have OK := Lib.hid ok; clear ok
  have HLO := Lib.hid hLO; clear hLO
  have HL0 : Hid (LM (w.heap.size + 1) ((w.alloc (.cells #[.int .i64 m.size, .slice ad m.doors.length cd, .slice ak m.keys.length ck] 27)).alloc (.cells #[.int .i64 0] 3)) (.slice (some ⟨w.heap.size + 1, 0, none⟩) 1 1) (nearK m O 0)) := by
    have h1 : mem (nearK m O 0) = [0] := by show mem 1 = [0]; decide
    refine ⟨w.heap.size + 1, 0, 1, by rw [h1]; rfl, ?_, by rw [h1]; simp, by unfold maxLen; omega, Nat.le_refl _, (by first | omega | (simp; done) | (simp; omega) | (dsimp only; omega))⟩
    rw [h1]
    exact ic_lit _ _ _ _ _ (by simp) rfl
  go_enter Try.func80, Try.ntmps80
  go_wp2
  go_loopw [5, 6] (fun o a wr => ∃ (j : Nat) (b : Bool), LM (w.heap.size + 1) wr o (nearK m O j) ∧ a = .bool b ∧ Hid (b = false → passN m O (nearK m O j) = nearK m O j) ∧ Hid (j ≤ nearK m O j) ∧ Below (w.heap.size + 1) (w.alloc (.cells #[.int .i64 m.size, .slice ad m.doors.length cd, .slice ak m.keys.length ck] 27)) wr) (fun o a _ => 2 * (40 - lenVn o) + againV a)
  case atStart => exact ⟨0, true, HL0.out, rfl, (fun h => by cases h), Nat.zero_le _, (Below.refl _ _).alloc (by simp) _⟩
  case round =>
    obtain ⟨wo, rfl⟩ : ∃ wo : World, wo = wr := ⟨_, rfl⟩
    obtain ⟨j, b, hlm, rfl, HB0, HJ, hb⟩ := hrel
    have HLM := Lib.hid hlm
    obtain ⟨bo0, oo0, co0, rfl, -⟩ := hlm
    have HBo := Lib.hid hb
    have HAI := Lib.hid (HIN.out j)
    have hA := (HIN.out j).lt OK.out
    obtain ⟨q0, q1, q2, z1⟩ := box3 hb (by omega)
    clear hb HL0
    cases b
    case false =>
      have HE : Hid (nearN m O = nearK m O j) := nearN_eq (by have := HJ.out; omega) (HB0.out rfl)
      obtain ⟨bo, oo, co, h1, h2, h3, h4, h5, h6⟩ := HLM.out
      have HF : Hid (LM w.heap.size wo (.slice (some ⟨bo0, oo0, none⟩) (mem (nearK m O j)).length co0) (nearN m O)) := by rw [HE.out]; exact ⟨bo, oo, co, h1, h2, h3, h4, by omega, h6⟩
      clear h1 h2 h3 h4 h5 h6
      go_wp2
      go_ret
      exact ⟨_, rfl, HF.out, below_box HBo.out (by omega)⟩
    case true =>
      have HNX : Hid (passN m O (nearK m O j) = nearK m O (j + 1)) := rfl
      have HPN : Hid (passK m.doors O (nearK m O j) m.doors.length = passN m O (nearK m O j)) := rfl
      have HPS : Hid (SubN (nearK m O j) (passN m O (nearK m O j))) := passK_sub m.doors O (nearK m O j) m.doors.length
      have hl40 := mem_len40z (nearK m O j)
      obtain ⟨A, hAe⟩ : ∃ A, A = nearK m O j := ⟨_, rfl⟩
      rw [← hAe] at HAI hA HNX HPN HPS HJ HLM hl40 ⊢
      have HAE := Lib.hid hAe
      clear hAe HB0
      go_wp2
      go_loopw [5, 6, 7] (fun o a i wr => ∃ k : Nat, k ≤ m.doors.length ∧ i = .int .i64 k ∧ LM (w.heap.size + 1) wr o (passK m.doors O A k) ∧ a = .bool (decide (passK m.doors O A k ≠ A)) ∧ Below (w.heap.size + 1) (w.alloc (.cells #[.int .i64 m.size, .slice ad m.doors.length cd, .slice ak m.keys.length ck] 27)) wr) (fun _ _ i _ => m.doors.length - (intOf i).toNat)
      case atStart => exact ⟨0, Nat.zero_le _, rfl, HLM.out, by simp [passK], HBo.out⟩
      case round =>
        obtain ⟨wi, rfl⟩ : ∃ wi : World, wi = wr := ⟨_, rfl⟩
        obtain ⟨k, hk, rfl, hlm, rfl, hb⟩ := hrel
        have HBi := Lib.hid hb
        have HBw := Lib.hid (below_box hb (by omega))
        have hzi := hb.size
        simp only [World.size_alloc] at hzi
        clear q0 q1 q2
        obtain ⟨q0, q1, q2, z3⟩ := box3 hb (by omega)
        clear hb
        have hc := (HPI.out A k HAI.out hk).lt OK.out
        by_cases hlt : k < m.doors.length
        · have hkI : (k : Int) < (m.doors.length : Int) := by omega
          obtain ⟨b, off, x0, y0, z0, hadx, HX, hbs, e0, e1, e2⟩ := (hd.later HBw.out).at k hlt
          subst hadx
          obtain ⟨f1, f2, f3, f4, f5⟩ := door_facts OK.out hlt HX.out
          obtain ⟨xn, rfl⟩ := Int.eq_ofNat_of_zero_le f1
          obtain ⟨yn, rfl⟩ := Int.eq_ofNat_of_zero_le (show 0 ≤ y0 by omega)
          obtain ⟨zn, rfl⟩ := Int.eq_ofNat_of_zero_le f4
          have hs2 : m.size ≤ 12 := OK.out.s2
          have hx0 : (xn : Int) < 12 := by omega
          have hy0 : (yn : Int) < 12 := by omega
          have HN : Hid (passK m.doors O A (k + 1) = if (decide ((zn : Int) = 0) || O.testBit k) && ((passK m.doors O A k).testBit xn != (passK m.doors O A k).testBit yn) then passK m.doors O A k ||| 2 ^ xn ||| 2 ^ yn else passK m.doors O A k) := nearD_eq HX.out
          have HGR : Hid (passK m.doors O A (k + 1) ≠ passK m.doors O A k → passK m.doors O A (k + 1) ≠ A) := passK_grew
          have HG2 : Hid (((passK m.doors O A k).testBit xn != (passK m.doors O A k).testBit yn) = true → passK m.doors O A k ||| 2 ^ xn ||| 2 ^ yn ≠ passK m.doors O A k) := grew_two
          have HLK : Hid (hasI L (k : Int) = O.testBit k) := HLO.out k hlt
          have HHX : Hid (hasI (mem (passK m.doors O A k)) (xn : Int) = (passK m.doors O A k).testBit xn) := hasI_bitZ hc
          have HHY : Hid (hasI (mem (passK m.doors O A k)) (yn : Int) = (passK m.doors O A k).testBit yn) := hasI_bitZ hc
          have HP1 : Hid (putL (mem (passK m.doors O A k)) (xn : Int) = mem (passK m.doors O A k ||| 2 ^ xn)) := put_memZ (by omega)
          have HP2 : Hid (putL (mem (passK m.doors O A k ||| 2 ^ xn)) (yn : Int) = mem (passK m.doors O A k ||| 2 ^ xn ||| 2 ^ yn)) := put_memZ (by omega)
          have h40 := mem_len40z (passK m.doors O A k)
          have h41 := mem_len40z (passK m.doors O A k ||| 2 ^ xn)
          have h42 := mem_len40z (passK m.doors O A k ||| 2 ^ xn ||| 2 ^ yn)
          obtain ⟨c, hce⟩ : ∃ c, c = passK m.doors O A k := ⟨_, rfl⟩
          rw [← hce] at hc HN HGR HG2 HHX HHY HP1 HP2 h40 h41 h42 hlm ⊢
          have HCE := Lib.hid hce
          clear hce
          obtain ⟨c1, hc1⟩ : ∃ c1, c1 = c ||| 2 ^ xn := ⟨_, rfl⟩
          rw [← hc1] at HN HG2 HP1 HP2 h41 h42
          obtain ⟨c2, hc2⟩ : ∃ c2, c2 = c1 ||| 2 ^ yn := ⟨_, rfl⟩
          rw [← hc2] at HN HG2 HP2 h42
          have HC1 := Lib.hid hc1
          clear hc1 hc2
          obtain ⟨pa, hpa⟩ : ∃ pa, pa = c.testBit xn := ⟨_, rfl⟩
          obtain ⟨pb, hpb⟩ : ∃ pb, pb = c.testBit yn := ⟨_, rfl⟩
          rw [← hpa, ← hpb] at HN HG2
          rw [← hpa] at HHX
          rw [← hpb] at HHY
          obtain ⟨ob, hob⟩ : ∃ ob, ob = O.testBit k := ⟨_, rfl⟩
          rw [← hob] at HN HLK
          clear hpa hpb hob
          obtain ⟨bo, oo, co, rfl, hio, hlc, hcm, hbb, hbo⟩ := hlm
          have HIO := Lib.hid hio
          have hLw := Lib.hid (hL.later HBw.out)
          clear hio
          have hzw : w.heap.size + 1 ≤ wi.heap.size := by omega
          have hbox : Hid (∀ W, Below wi.heap.size wi W → Below (w.heap.size + 1) (w.alloc (.cells #[.int .i64 m.size, .slice (some ⟨b, off, none⟩) m.doors.length cd, .slice ak m.keys.length ck] 27)) W) := fun W hW => HBi.out.trans (hW.mono hzw)
          have HLMi : Hid (∀ W, Below wi.heap.size wi W → LM (w.heap.size + 1) W (.slice (some ⟨bo, oo, none⟩) (mem c).length co) c) := fun W hW => LM.later ⟨bo, oo, co, rfl, HIO.out, hlc, hcm, hbb, hbo⟩ hW
          by_cases hz0 : zn = 0
          case pos =>
            subst hz0
            cases pa
            case false =>
              cases pb
              case false =>
                have HS : Hid (passK m.doors O A (k + 1) = c) := by show _ = _; rw [HN.out]; simp
                have HDC : Hid ((!decide (c = A)) = decide (passK m.doors O A (k + 1) ≠ A)) := by show _ = _; rw [HS.out]; simp
                go_wp2
                go_quiet (fail)
                go_wp2_with fail
                refine (l1Has_c _ _ _ (mem c) _ _ rfl (HIO.out.later (by (repeat (first | exact Below.refl _ _ | apply Below.drew | apply below_drewN | (refine Below.setCell ?_ (by first | omega | (simp; done) | (simp; omega) | (dsimp only; omega)) _) | (refine Below.alloc ?_ (by first | omega | (simp; done) | (simp; omega) | (dsimp only; omega)) _))))) (by omega)).mono ?_
                rintro e w4 ⟨rfl, rfl⟩
                rw [HHX.out]
                go_wp2_with fail
                refine (l1Has_c _ _ _ (mem c) _ _ rfl (HIO.out.later (by (repeat (first | exact Below.refl _ _ | apply Below.drew | apply below_drewN | (refine Below.setCell ?_ (by first | omega | (simp; done) | (simp; omega) | (dsimp only; omega)) _) | (refine Below.alloc ?_ (by first | omega | (simp; done) | (simp; omega) | (dsimp only; omega)) _))))) (by omega)).mono ?_
                rintro e w4 ⟨rfl, rfl⟩
                rw [HHY.out]
                go_wp2_with fail
                go_roundw
                case rel => exact ⟨k + 1, by omega, by go_num, by rw [HS.out]; exact HLMi.out _ (by (repeat (first | exact Below.refl _ _ | apply Below.drew | apply below_drewN | (refine Below.setCell ?_ (by first | omega | (simp; done) | (simp; omega) | (dsimp only; omega)) _) | (refine Below.alloc ?_ (by first | omega | (simp; done) | (simp; omega) | (dsimp only; omega)) _)))), by first | exact congrArg Value.bool HDC.out | rw [HS.out], hbox.out _ (by (repeat (first | exact Below.refl _ _ | apply Below.drew | apply below_drewN | (refine Below.setCell ?_ (by first | omega | (simp; done) | (simp; omega) | (dsimp only; omega)) _) | (refine Below.alloc ?_ (by first | omega | (simp; done) | (simp; omega) | (dsimp only; omega)) _))))⟩
                case measure => simp [intOf]; omega
              case true =>
                have HS : Hid (passK m.doors O A (k + 1) = c2) := by show _ = _; rw [HN.out]; simp
                have HNE : Hid (c2 ≠ A) := by
                  have h1 := HG2.out rfl
                  have h2 := HGR.out (by rw [HS.out]; exact h1)
                  rw [HS.out] at h2; exact h2
                have HDC : Hid (decide (c2 ≠ A) = true) := decide_eq_true HNE.out
                go_wp2
                go_quiet (fail)
                go_wp2_with fail
                refine (l1Has_c _ _ _ (mem c) _ _ rfl (HIO.out.later (by (repeat (first | exact Below.refl _ _ | apply Below.drew | apply below_drewN | (refine Below.setCell ?_ (by first | omega | (simp; done) | (simp; omega) | (dsimp only; omega)) _) | (refine Below.alloc ?_ (by first | omega | (simp; done) | (simp; omega) | (dsimp only; omega)) _))))) (by omega)).mono ?_
                rintro e w4 ⟨rfl, rfl⟩
                rw [HHX.out]
                go_wp2_with fail
                refine (l1Has_c _ _ _ (mem c) _ _ rfl (HIO.out.later (by (repeat (first | exact Below.refl _ _ | apply Below.drew | apply below_drewN | (refine Below.setCell ?_ (by first | omega | (simp; done) | (simp; omega) | (dsimp only; omega)) _) | (refine Below.alloc ?_ (by first | omega | (simp; done) | (simp; omega) | (dsimp only; omega)) _))))) (by omega)).mono ?_
                rintro e w4 ⟨rfl, rfl⟩
                rw [HHY.out]
                go_wp2_with fail
                refine (l1PutB_c bo oo co (mem c) xn _ (HIO.out.later (by (repeat (first | exact Below.refl _ _ | apply Below.drew | apply below_drewN | (refine Below.setCell ?_ (by first | omega | (simp; done) | (simp; omega) | (dsimp only; omega)) _) | (refine Below.alloc ?_ (by first | omega | (simp; done) | (simp; omega) | (dsimp only; omega)) _))))) (by omega) hlc hcm).mono ?_
                rintro e w4 ⟨b4, o4, c4, rfl, hi4, hl4, hm4, hb4, hfr4⟩
                rw [HP1.out] at hi4 hl4 ⊢
                have hb4' : Below wi.heap.size wi w4 := (below_drewN (Below.refl _ _) _).trans hb4
                have hz4 := hb4'.size
                have hbo4 : b4 < w4.heap.size := by
                  obtain ⟨b', o', he', hbs', -⟩ := hi4 0 (by have : (xn : Int) ∈ mem c1 := (in_mem _ _).2 ⟨xn, by omega, by rw [HC1.out, Nat.testBit_or, Nat.testBit_two_pow]; simp, rfl⟩; exact List.length_pos_of_mem this)
                  cases he'; exact hbs'
                have hba4 : w.heap.size + 1 ≤ b4 := by
                  rcases hfr4 with h | h
                  · omega
                  · have : wi.heap.size ≤ b4 := h
                    omega
                have HI4 := Lib.hid hi4
                have HB4 := Lib.hid hb4'
                clear hi4 hb4 hb4' hfr4
                go_wp2_with fail
                refine (l1PutB_c b4 o4 c4 (mem c1) yn _ HI4.out (by omega) hl4 hm4).mono ?_
                rintro e w5 ⟨b5, o5, c5, rfl, hi5, hl5, hm5, hb5, hfr5⟩
                rw [HP2.out] at hi5 hl5 ⊢
                have hz5 := hb5.size
                have HB5 : Hid (Below wi.heap.size wi w5) := HB4.out.trans (hb5.mono hz4)
                have HL5 : Hid (LM (w.heap.size + 1) w5 (.slice (some ⟨b5, o5, none⟩) (mem c2).length c5) c2) := by
                  have hba5 : w.heap.size + 1 ≤ b5 := by
                    rcases hfr5 with h | h <;> omega
                  refine ⟨b5, o5, c5, rfl, hi5, hl5, hm5, hba5, ?_⟩
                  rcases hfr5 with h | h
                  · omega
                  · have hp : 0 < (mem c2).length := by
                      have h1 : ∀ l : List Int, ∀ x, 0 < (putL l x).length := by
                        intro l x
                        cases l with
                        | nil => simp [putL]
                        | cons a l => unfold putL; split <;> (try split) <;> simp
                      rw [← HP2.out]; exact h1 _ _
                    obtain ⟨b', o', he', hbs', -⟩ := hi5 0 hp
                    cases he'; exact hbs'
                clear hi5 hb5 hfr5
                go_wp2
                go_roundw
                case rel => exact ⟨k + 1, by omega, by go_num, by rw [HS.out]; exact HL5.out, by rw [HS.out, HDC.out], hbox.out _ HB5.out⟩
                case measure => simp [intOf]; omega
            case true =>
              cases pb
              case false =>
                have HS : Hid (passK m.doors O A (k + 1) = c2) := by show _ = _; rw [HN.out]; simp
                have HNE : Hid (c2 ≠ A) := by
                  have h1 := HG2.out rfl
                  have h2 := HGR.out (by rw [HS.out]; exact h1)
                  rw [HS.out] at h2; exact h2
                have HDC : Hid (decide (c2 ≠ A) = true) := decide_eq_true HNE.out
                go_wp2
                go_quiet (fail)
                go_wp2_with fail
                refine (l1Has_c _ _ _ (mem c) _ _ rfl (HIO.out.later (by (repeat (first | exact Below.refl _ _ | apply Below.drew | apply below_drewN | (refine Below.setCell ?_ (by first | omega | (simp; done) | (simp; omega) | (dsimp only; omega)) _) | (refine Below.alloc ?_ (by first | omega | (simp; done) | (simp; omega) | (dsimp only; omega)) _))))) (by omega)).mono ?_
                rintro e w4 ⟨rfl, rfl⟩
                rw [HHX.out]
                go_wp2_with fail
                refine (l1Has_c _ _ _ (mem c) _ _ rfl (HIO.out.later (by (repeat (first | exact Below.refl _ _ | apply Below.drew | apply below_drewN | (refine Below.setCell ?_ (by first | omega | (simp; done) | (simp; omega) | (dsimp only; omega)) _) | (refine Below.alloc ?_ (by first | omega | (simp; done) | (simp; omega) | (dsimp only; omega)) _))))) (by omega)).mono ?_
                rintro e w4 ⟨rfl, rfl⟩
                rw [HHY.out]
                go_wp2_with fail
                refine (l1PutB_c bo oo co (mem c) xn _ (HIO.out.later (by (repeat (first | exact Below.refl _ _ | apply Below.drew | apply below_drewN | (refine Below.setCell ?_ (by first | omega | (simp; done) | (simp; omega) | (dsimp only; omega)) _) | (refine Below.alloc ?_ (by first | omega | (simp; done) | (simp; omega) | (dsimp only; omega)) _))))) (by omega) hlc hcm).mono ?_
                rintro e w4 ⟨b4, o4, c4, rfl, hi4, hl4, hm4, hb4, hfr4⟩
                rw [HP1.out] at hi4 hl4 ⊢
                have hb4' : Below wi.heap.size wi w4 := (below_drewN (Below.refl _ _) _).trans hb4
                have hz4 := hb4'.size
                have hbo4 : b4 < w4.heap.size := by
                  obtain ⟨b', o', he', hbs', -⟩ := hi4 0 (by have : (xn : Int) ∈ mem c1 := (in_mem _ _).2 ⟨xn, by omega, by rw [HC1.out, Nat.testBit_or, Nat.testBit_two_pow]; simp, rfl⟩; exact List.length_pos_of_mem this)
                  cases he'; exact hbs'
                have hba4 : w.heap.size + 1 ≤ b4 := by
                  rcases hfr4 with h | h
                  · omega
                  · have : wi.heap.size ≤ b4 := h
                    omega
                have HI4 := Lib.hid hi4
                have HB4 := Lib.hid hb4'
                clear hi4 hb4 hb4' hfr4
                go_wp2_with fail
                refine (l1PutB_c b4 o4 c4 (mem c1) yn _ HI4.out (by omega) hl4 hm4).mono ?_
                rintro e w5 ⟨b5, o5, c5, rfl, hi5, hl5, hm5, hb5, hfr5⟩
                rw [HP2.out] at hi5 hl5 ⊢
                have hz5 := hb5.size
                have HB5 : Hid (Below wi.heap.size wi w5) := HB4.out.trans (hb5.mono hz4)
                have HL5 : Hid (LM (w.heap.size + 1) w5 (.slice (some ⟨b5, o5, none⟩) (mem c2).length c5) c2) := by
                  have hba5 : w.heap.size + 1 ≤ b5 := by
                    rcases hfr5 with h | h <;> omega
                  refine ⟨b5, o5, c5, rfl, hi5, hl5, hm5, hba5, ?_⟩
                  rcases hfr5 with h | h
                  · omega
                  · have hp : 0 < (mem c2).length := by
                      have h1 : ∀ l : List Int, ∀ x, 0 < (putL l x).length := by
                        intro l x
                        cases l with
                        | nil => simp [putL]
                        | cons a l => unfold putL; split <;> (try split) <;> simp
                      rw [← HP2.out]; exact h1 _ _
                    obtain ⟨b', o', he', hbs', -⟩ := hi5 0 hp
                    cases he'; exact hbs'
                clear hi5 hb5 hfr5
                go_wp2
                go_roundw
                case rel => exact ⟨k + 1, by omega, by go_num, by rw [HS.out]; exact HL5.out, by rw [HS.out, HDC.out], hbox.out _ HB5.out⟩
                case measure => simp [intOf]; omega
              case true =>
                have HS : Hid (passK m.doors O A (k + 1) = c) := by show _ = _; rw [HN.out]; simp
                have HDC : Hid ((!decide (c = A)) = decide (passK m.doors O A (k + 1) ≠ A)) := by show _ = _; rw [HS.out]; simp
                go_wp2
                go_quiet (fail)
                go_wp2_with fail
                refine (l1Has_c _ _ _ (mem c) _ _ rfl (HIO.out.later (by (repeat (first | exact Below.refl _ _ | apply Below.drew | apply below_drewN | (refine Below.setCell ?_ (by first | omega | (simp; done) | (simp; omega) | (dsimp only; omega)) _) | (refine Below.alloc ?_ (by first | omega | (simp; done) | (simp; omega) | (dsimp only; omega)) _))))) (by omega)).mono ?_
                rintro e w4 ⟨rfl, rfl⟩
                rw [HHX.out]
                go_wp2_with fail
                refine (l1Has_c _ _ _ (mem c) _ _ rfl (HIO.out.later (by (repeat (first | exact Below.refl _ _ | apply Below.drew | apply below_drewN | (refine Below.setCell ?_ (by first | omega | (simp; done) | (simp; omega) | (dsimp only; omega)) _) | (refine Below.alloc ?_ (by first | omega | (simp; done) | (simp; omega) | (dsimp only; omega)) _))))) (by omega)).mono ?_
                rintro e w4 ⟨rfl, rfl⟩
                rw [HHY.out]
                go_wp2_with fail
                go_roundw
                case rel => exact ⟨k + 1, by omega, by go_num, by rw [HS.out]; exact HLMi.out _ (by (repeat (first | exact Below.refl _ _ | apply Below.drew | apply below_drewN | (refine Below.setCell ?_ (by first | omega | (simp; done) | (simp; omega) | (dsimp only; omega)) _) | (refine Below.alloc ?_ (by first | omega | (simp; done) | (simp; omega) | (dsimp only; omega)) _)))), by first | exact congrArg Value.bool HDC.out | rw [HS.out], hbox.out _ (by (repeat (first | exact Below.refl _ _ | apply Below.drew | apply below_drewN | (refine Below.setCell ?_ (by first | omega | (simp; done) | (simp; omega) | (dsimp only; omega)) _) | (refine Below.alloc ?_ (by first | omega | (simp; done) | (simp; omega) | (dsimp only; omega)) _))))⟩
                case measure => simp [intOf]; omega
          case neg =>
            have hzI : (zn : Int) ≠ 0 := by omega
            have HZN := Lib.hid hz0
            clear hz0
            cases ob
            case false =>
              have HS : Hid (passK m.doors O A (k + 1) = c) := by show _ = _; rw [HN.out]; simp [HZN.out]
              have HDC : Hid ((!decide (c = A)) = decide (passK m.doors O A (k + 1) ≠ A)) := by show _ = _; rw [HS.out]; simp
              go_wp2
              go_quiet (fail)
              go_wp2_with fail
              refine (l1Has_c _ _ _ L _ _ rfl (hLw.out.later (by (repeat (first | exact Below.refl _ _ | apply Below.drew | apply below_drewN | (refine Below.setCell ?_ (by first | omega | (simp; done) | (simp; omega) | (dsimp only; omega)) _) | (refine Below.alloc ?_ (by first | omega | (simp; done) | (simp; omega) | (dsimp only; omega)) _))))) hLl).mono ?_
              rintro e w4 ⟨rfl, rfl⟩
              rw [HLK.out]
              go_wp2_with fail
              go_roundw
              case rel => exact ⟨k + 1, by omega, by go_num, by rw [HS.out]; exact HLMi.out _ (by (repeat (first | exact Below.refl _ _ | apply Below.drew | apply below_drewN | (refine Below.setCell ?_ (by first | omega | (simp; done) | (simp; omega) | (dsimp only; omega)) _) | (refine Below.alloc ?_ (by first | omega | (simp; done) | (simp; omega) | (dsimp only; omega)) _)))), by first | exact congrArg Value.bool HDC.out | rw [HS.out], hbox.out _ (by (repeat (first | exact Below.refl _ _ | apply Below.drew | apply below_drewN | (refine Below.setCell ?_ (by first | omega | (simp; done) | (simp; omega) | (dsimp only; omega)) _) | (refine Below.alloc ?_ (by first | omega | (simp; done) | (simp; omega) | (dsimp only; omega)) _))))⟩
              case measure => simp [intOf]; omega
            case true =>
              cases pa
              case false =>
                cases pb
                case false =>
                  have HS : Hid (passK m.doors O A (k + 1) = c) := by show _ = _; rw [HN.out]; simp [HZN.out]
                  have HDC : Hid ((!decide (c = A)) = decide (passK m.doors O A (k + 1) ≠ A)) := by show _ = _; rw [HS.out]; simp
                  go_wp2
                  go_quiet (fail)
                  go_wp2_with fail
                  refine (l1Has_c _ _ _ L _ _ rfl (hLw.out.later (by (repeat (first | exact Below.refl _ _ | apply Below.drew | apply below_drewN | (refine Below.setCell ?_ (by first | omega | (simp; done) | (simp; omega) | (dsimp only; omega)) _) | (refine Below.alloc ?_ (by first | omega | (simp; done) | (simp; omega) | (dsimp only; omega)) _))))) hLl).mono ?_
                  rintro e w4 ⟨rfl, rfl⟩
                  rw [HLK.out]
                  go_wp2_with fail
                  refine (l1Has_c _ _ _ (mem c) _ _ rfl (HIO.out.later (by (repeat (first | exact Below.refl _ _ | apply Below.drew | apply below_drewN | (refine Below.setCell ?_ (by first | omega | (simp; done) | (simp; omega) | (dsimp only; omega)) _) | (refine Below.alloc ?_ (by first | omega | (simp; done) | (simp; omega) | (dsimp only; omega)) _))))) (by omega)).mono ?_
                  rintro e w4 ⟨rfl, rfl⟩
                  rw [HHX.out]
                  go_wp2_with fail
                  refine (l1Has_c _ _ _ (mem c) _ _ rfl (HIO.out.later (by (repeat (first | exact Below.refl _ _ | apply Below.drew | apply below_drewN | (refine Below.setCell ?_ (by first | omega | (simp; done) | (simp; omega) | (dsimp only; omega)) _) | (refine Below.alloc ?_ (by first | omega | (simp; done) | (simp; omega) | (dsimp only; omega)) _))))) (by omega)).mono ?_
                  rintro e w4 ⟨rfl, rfl⟩
                  rw [HHY.out]
                  go_wp2_with fail
                  go_roundw
                  case rel => exact ⟨k + 1, by omega, by go_num, by rw [HS.out]; exact HLMi.out _ (by (repeat (first | exact Below.refl _ _ | apply Below.drew | apply below_drewN | (refine Below.setCell ?_ (by first | omega | (simp; done) | (simp; omega) | (dsimp only; omega)) _) | (refine Below.alloc ?_ (by first | omega | (simp; done) | (simp; omega) | (dsimp only; omega)) _)))), by first | exact congrArg Value.bool HDC.out | rw [HS.out], hbox.out _ (by (repeat (first | exact Below.refl _ _ | apply Below.drew | apply below_drewN | (refine Below.setCell ?_ (by first | omega | (simp; done) | (simp; omega) | (dsimp only; omega)) _) | (refine Below.alloc ?_ (by first | omega | (simp; done) | (simp; omega) | (dsimp only; omega)) _))))⟩
                  case measure => simp [intOf]; omega
                case true =>
                  have HS : Hid (passK m.doors O A (k + 1) = c2) := by show _ = _; rw [HN.out]; simp [HZN.out]
                  have HNE : Hid (c2 ≠ A) := by
                    have h1 := HG2.out rfl
                    have h2 := HGR.out (by rw [HS.out]; exact h1)
                    rw [HS.out] at h2; exact h2
                  have HDC : Hid (decide (c2 ≠ A) = true) := decide_eq_true HNE.out
                  go_wp2
                  go_quiet (fail)
                  go_wp2_with fail
                  refine (l1Has_c _ _ _ L _ _ rfl (hLw.out.later (by (repeat (first | exact Below.refl _ _ | apply Below.drew | apply below_drewN | (refine Below.setCell ?_ (by first | omega | (simp; done) | (simp; omega) | (dsimp only; omega)) _) | (refine Below.alloc ?_ (by first | omega | (simp; done) | (simp; omega) | (dsimp only; omega)) _))))) hLl).mono ?_
                  rintro e w4 ⟨rfl, rfl⟩
                  rw [HLK.out]
                  go_wp2_with fail
                  refine (l1Has_c _ _ _ (mem c) _ _ rfl (HIO.out.later (by (repeat (first | exact Below.refl _ _ | apply Below.drew | apply below_drewN | (refine Below.setCell ?_ (by first | omega | (simp; done) | (simp; omega) | (dsimp only; omega)) _) | (refine Below.alloc ?_ (by first | omega | (simp; done) | (simp; omega) | (dsimp only; omega)) _))))) (by omega)).mono ?_
                  rintro e w4 ⟨rfl, rfl⟩
                  rw [HHX.out]
                  go_wp2_with fail
                  refine (l1Has_c _ _ _ (mem c) _ _ rfl (HIO.out.later (by (repeat (first | exact Below.refl _ _ | apply Below.drew | apply below_drewN | (refine Below.setCell ?_ (by first | omega | (simp; done) | (simp; omega) | (dsimp only; omega)) _) | (refine Below.alloc ?_ (by first | omega | (simp; done) | (simp; omega) | (dsimp only; omega)) _))))) (by omega)).mono ?_
                  rintro e w4 ⟨rfl, rfl⟩
                  rw [HHY.out]
                  go_wp2_with fail
                  refine (l1PutB_c bo oo co (mem c) xn _ (HIO.out.later (by (repeat (first | exact Below.refl _ _ | apply Below.drew | apply below_drewN | (refine Below.setCell ?_ (by first | omega | (simp; done) | (simp; omega) | (dsimp only; omega)) _) | (refine Below.alloc ?_ (by first | omega | (simp; done) | (simp; omega) | (dsimp only; omega)) _))))) (by omega) hlc hcm).mono ?_
                  rintro e w4 ⟨b4, o4, c4, rfl, hi4, hl4, hm4, hb4, hfr4⟩
                  rw [HP1.out] at hi4 hl4 ⊢
                  have hb4' : Below wi.heap.size wi w4 := (below_drewN (Below.refl _ _) _).trans hb4
                  have hz4 := hb4'.size
                  have hbo4 : b4 < w4.heap.size := by
                    obtain ⟨b', o', he', hbs', -⟩ := hi4 0 (by have : (xn : Int) ∈ mem c1 := (in_mem _ _).2 ⟨xn, by omega, by rw [HC1.out, Nat.testBit_or, Nat.testBit_two_pow]; simp, rfl⟩; exact List.length_pos_of_mem this)
                    cases he'; exact hbs'
                  have hba4 : w.heap.size + 1 ≤ b4 := by
                    rcases hfr4 with h | h
                    · omega
                    · have : wi.heap.size ≤ b4 := h
                      omega
                  have HI4 := Lib.hid hi4
                  have HB4 := Lib.hid hb4'
                  clear hi4 hb4 hb4' hfr4
                  go_wp2_with fail
                  refine (l1PutB_c b4 o4 c4 (mem c1) yn _ HI4.out (by omega) hl4 hm4).mono ?_
                  rintro e w5 ⟨b5, o5, c5, rfl, hi5, hl5, hm5, hb5, hfr5⟩
                  rw [HP2.out] at hi5 hl5 ⊢
                  have hz5 := hb5.size
                  have HB5 : Hid (Below wi.heap.size wi w5) := HB4.out.trans (hb5.mono hz4)
                  have HL5 : Hid (LM (w.heap.size + 1) w5 (.slice (some ⟨b5, o5, none⟩) (mem c2).length c5) c2) := by
                    have hba5 : w.heap.size + 1 ≤ b5 := by
                      rcases hfr5 with h | h <;> omega
                    refine ⟨b5, o5, c5, rfl, hi5, hl5, hm5, hba5, ?_⟩
                    rcases hfr5 with h | h
                    · omega
                    · have hp : 0 < (mem c2).length := by
                        have h1 : ∀ l : List Int, ∀ x, 0 < (putL l x).length := by
                          intro l x
                          cases l with
                          | nil => simp [putL]
                          | cons a l => unfold putL; split <;> (try split) <;> simp
                        rw [← HP2.out]; exact h1 _ _
                      obtain ⟨b', o', he', hbs', -⟩ := hi5 0 hp
                      cases he'; exact hbs'
                  clear hi5 hb5 hfr5
                  go_wp2
                  go_roundw
                  case rel => exact ⟨k + 1, by omega, by go_num, by rw [HS.out]; exact HL5.out, by rw [HS.out, HDC.out], hbox.out _ HB5.out⟩
                  case measure => simp [intOf]; omega
              case true =>
                cases pb
                case false =>
                  have HS : Hid (passK m.doors O A (k + 1) = c2) := by show _ = _; rw [HN.out]; simp [HZN.out]
                  have HNE : Hid (c2 ≠ A) := by
                    have h1 := HG2.out rfl
                    have h2 := HGR.out (by rw [HS.out]; exact h1)
                    rw [HS.out] at h2; exact h2
                  have HDC : Hid (decide (c2 ≠ A) = true) := decide_eq_true HNE.out
                  go_wp2
                  go_quiet (fail)
                  go_wp2_with fail
                  refine (l1Has_c _ _ _ L _ _ rfl (hLw.out.later (by (repeat (first | exact Below.refl _ _ | apply Below.drew | apply below_drewN | (refine Below.setCell ?_ (by first | omega | (simp; done) | (simp; omega) | (dsimp only; omega)) _) | (refine Below.alloc ?_ (by first | omega | (simp; done) | (simp; omega) | (dsimp only; omega)) _))))) hLl).mono ?_
                  rintro e w4 ⟨rfl, rfl⟩
                  rw [HLK.out]
                  go_wp2_with fail
                  refine (l1Has_c _ _ _ (mem c) _ _ rfl (HIO.out.later (by (repeat (first | exact Below.refl _ _ | apply Below.drew | apply below_drewN | (refine Below.setCell ?_ (by first | omega | (simp; done) | (simp; omega) | (dsimp only; omega)) _) | (refine Below.alloc ?_ (by first | omega | (simp; done) | (simp; omega) | (dsimp only; omega)) _))))) (by omega)).mono ?_
                  rintro e w4 ⟨rfl, rfl⟩
                  rw [HHX.out]
                  go_wp2_with fail
                  refine (l1Has_c _ _ _ (mem c) _ _ rfl (HIO.out.later (by (repeat (first | exact Below.refl _ _ | apply Below.drew | apply below_drewN | (refine Below.setCell ?_ (by first | omega | (simp; done) | (simp; omega) | (dsimp only; omega)) _) | (refine Below.alloc ?_ (by first | omega | (simp; done) | (simp; omega) | (dsimp only; omega)) _))))) (by omega)).mono ?_
                  rintro e w4 ⟨rfl, rfl⟩
                  rw [HHY.out]
                  go_wp2_with fail
                  refine (l1PutB_c bo oo co (mem c) xn _ (HIO.out.later (by (repeat (first | exact Below.refl _ _ | apply Below.drew | apply below_drewN | (refine Below.setCell ?_ (by first | omega | (simp; done) | (simp; omega) | (dsimp only; omega)) _) | (refine Below.alloc ?_ (by first | omega | (simp; done) | (simp; omega) | (dsimp only; omega)) _))))) (by omega) hlc hcm).mono ?_
                  rintro e w4 ⟨b4, o4, c4, rfl, hi4, hl4, hm4, hb4, hfr4⟩
                  rw [HP1.out] at hi4 hl4 ⊢
                  have hb4' : Below wi.heap.size wi w4 := (below_drewN (Below.refl _ _) _).trans hb4
                  have hz4 := hb4'.size
                  have hbo4 : b4 < w4.heap.size := by
                    obtain ⟨b', o', he', hbs', -⟩ := hi4 0 (by have : (xn : Int) ∈ mem c1 := (in_mem _ _).2 ⟨xn, by omega, by rw [HC1.out, Nat.testBit_or, Nat.testBit_two_pow]; simp, rfl⟩; exact List.length_pos_of_mem this)
                    cases he'; exact hbs'
                  have hba4 : w.heap.size + 1 ≤ b4 := by
                    rcases hfr4 with h | h
                    · omega
                    · have : wi.heap.size ≤ b4 := h
                      omega
                  have HI4 := Lib.hid hi4
                  have HB4 := Lib.hid hb4'
                  clear hi4 hb4 hb4' hfr4
                  go_wp2_with fail
                  refine (l1PutB_c b4 o4 c4 (mem c1) yn _ HI4.out (by omega) hl4 hm4).mono ?_
                  rintro e w5 ⟨b5, o5, c5, rfl, hi5, hl5, hm5, hb5, hfr5⟩
                  rw [HP2.out] at hi5 hl5 ⊢
                  have hz5 := hb5.size
                  have HB5 : Hid (Below wi.heap.size wi w5) := HB4.out.trans (hb5.mono hz4)
                  have HL5 : Hid (LM (w.heap.size + 1) w5 (.slice (some ⟨b5, o5, none⟩) (mem c2).length c5) c2) := by
                    have hba5 : w.heap.size + 1 ≤ b5 := by
                      rcases hfr5 with h | h <;> omega
                    refine ⟨b5, o5, c5, rfl, hi5, hl5, hm5, hba5, ?_⟩
                    rcases hfr5 with h | h
                    · omega
                    · have hp : 0 < (mem c2).length := by
                        have h1 : ∀ l : List Int, ∀ x, 0 < (putL l x).length := by
                          intro l x
                          cases l with
                          | nil => simp [putL]
                          | cons a l => unfold putL; split <;> (try split) <;> simp
                        rw [← HP2.out]; exact h1 _ _
                      obtain ⟨b', o', he', hbs', -⟩ := hi5 0 hp
                      cases he'; exact hbs'
                  clear hi5 hb5 hfr5
                  go_wp2
                  go_roundw
                  case rel => exact ⟨k + 1, by omega, by go_num, by rw [HS.out]; exact HL5.out, by rw [HS.out, HDC.out], hbox.out _ HB5.out⟩
                  case measure => simp [intOf]; omega
                case true =>
                  have HS : Hid (passK m.doors O A (k + 1) = c) := by show _ = _; rw [HN.out]; simp [HZN.out]
                  have HDC : Hid ((!decide (c = A)) = decide (passK m.doors O A (k + 1) ≠ A)) := by show _ = _; rw [HS.out]; simp
                  go_wp2
                  go_quiet (fail)
                  go_wp2_with fail
                  refine (l1Has_c _ _ _ L _ _ rfl (hLw.out.later (by (repeat (first | exact Below.refl _ _ | apply Below.drew | apply below_drewN | (refine Below.setCell ?_ (by first | omega | (simp; done) | (simp; omega) | (dsimp only; omega)) _) | (refine Below.alloc ?_ (by first | omega | (simp; done) | (simp; omega) | (dsimp only; omega)) _))))) hLl).mono ?_
                  rintro e w4 ⟨rfl, rfl⟩
                  rw [HLK.out]
                  go_wp2_with fail
                  refine (l1Has_c _ _ _ (mem c) _ _ rfl (HIO.out.later (by (repeat (first | exact Below.refl _ _ | apply Below.drew | apply below_drewN | (refine Below.setCell ?_ (by first | omega | (simp; done) | (simp; omega) | (dsimp only; omega)) _) | (refine Below.alloc ?_ (by first | omega | (simp; done) | (simp; omega) | (dsimp only; omega)) _))))) (by omega)).mono ?_
                  rintro e w4 ⟨rfl, rfl⟩
                  rw [HHX.out]
                  go_wp2_with fail
                  refine (l1Has_c _ _ _ (mem c) _ _ rfl (HIO.out.later (by (repeat (first | exact Below.refl _ _ | apply Below.drew | apply below_drewN | (refine Below.setCell ?_ (by first | omega | (simp; done) | (simp; omega) | (dsimp only; omega)) _) | (refine Below.alloc ?_ (by first | omega | (simp; done) | (simp; omega) | (dsimp only; omega)) _))))) (by omega)).mono ?_
                  rintro e w4 ⟨rfl, rfl⟩
                  rw [HHY.out]
                  go_wp2_with fail
                  go_roundw
                  case rel => exact ⟨k + 1, by omega, by go_num, by rw [HS.out]; exact HLMi.out _ (by (repeat (first | exact Below.refl _ _ | apply Below.drew | apply below_drewN | (refine Below.setCell ?_ (by first | omega | (simp; done) | (simp; omega) | (dsimp only; omega)) _) | (refine Below.alloc ?_ (by first | omega | (simp; done) | (simp; omega) | (dsimp only; omega)) _)))), by first | exact congrArg Value.bool HDC.out | rw [HS.out], hbox.out _ (by (repeat (first | exact Below.refl _ _ | apply Below.drew | apply below_drewN | (refine Below.setCell ?_ (by first | omega | (simp; done) | (simp; omega) | (dsimp only; omega)) _) | (refine Below.alloc ?_ (by first | omega | (simp; done) | (simp; omega) | (dsimp only; omega)) _))))⟩
                  case measure => simp [intOf]; omega
        · obtain rfl : k = m.doors.length := by omega
          rw [HPN.out] at hlm ⊢
          have HLF := Lib.hid hlm
          obtain ⟨bo, oo, co, rfl, -⟩ := hlm
          go_wp2
          by_cases he : passN m O A = A
          case pos =>
            have HE := Lib.hid he
            have HLF2 : Hid (LM (w.heap.size + 1) wi (.slice (some ⟨bo, oo, none⟩) (mem (passN m O A)).length co) A) := Eq.mp (congrArg (fun z => LM (w.heap.size + 1) wi (.slice (some ⟨bo, oo, none⟩) (mem (passN m O A)).length co) z) HE.out) HLF.out
            go_roundw
            case rel => exact ⟨j, decide (passN m O A ≠ A), by rw [← HAE.out]; exact HLF2.out, by first | rfl | (rw [HE.out]; simp), fun _ => by rw [← HAE.out]; exact HE.out, by rw [← HAE.out]; exact HJ.out, HBi.out⟩
            case measure => simp [lenVn, againV, HE.out]
          case neg =>
            have hgt := passN_grows he
            have HGT := Lib.hid hgt
            have HE := Lib.hid he
            have hpl : passN m O A < 4096 := by rw [← HPN.out]; exact (HPI.out A _ HAI.out (Nat.le_refl _)).lt OK.out
            have hgl := memN_grow HPS.out (fun e => he e.symm) hpl
            have h40 := mem_len40z (passN m O A)
            have HGL := Lib.hid hgl
            go_roundw
            case rel => exact ⟨j + 1, decide (passN m O A ≠ A), by rw [← HNX.out]; exact HLF.out, rfl, fun h => absurd (of_decide_eq_false h) (fun h2 => h2 HE.out), by rw [← HNX.out]; have h1 := HJ.out; have h2 := HGT.out; show _ ≤ _; omega, HBi.out⟩
            case measure => simp [lenVn, againV, HE.out]; have := HGL.out; omega
end Go.Proofs.Ytcjcgcgcloanpaa

namespace Go.KD
open Go.RowKit
theorem own_intZ {w : World} {lo g n cap : Nat} {e : TypeId} {L : List Int} (h : w.ownsRow lo e 1 (.slice (some ⟨g, 0, none⟩) n cap) n (ints L)) (c : Nat) (hc : c < n) (hl : L.length = n) : w.cell? ⟨g, c, none⟩ = some (.int .i64 L[c]!) := by
  rw [h.cellAt c (by omega), ints, List.getElem?_map, List.getElem?_eq_getElem (by omega), getElem!_pos L c (by omega)]
  rfl
def row6 (f : Nat → Int) : List Int := (List.range 6).map f
@[simp] theorem row6_len (f : Nat → Int) : (row6 f).length = 6 := by simp [row6]
theorem row6_at {f : Nat → Int} {c : Nat} (hc : c < 6) : (row6 f)[c]! = f c := by
  rw [getElem!_pos _ _ (by simpa using hc)]; simp [row6]
theorem row6_congr {f g : Nat → Int} (h : ∀ c, c < 6 → f c = g c) : row6 f = row6 g := List.map_congr_left fun c hc => h c (List.mem_range.1 hc)
theorem row6_set (f : Nat → Int) (c : Nat) (v : Int) : (row6 f).set c v = row6 fun d => if d = c then v else f d := by
  apply List.ext_getElem
  · simp
  · intro i h1 h2
    rw [List.getElem_set]
    simp only [row6, List.getElem_map, List.getElem_range]
    by_cases h : c = i
    · subst h; simp
    · rw [if_neg h, if_neg (fun e => h e.symm)]
def inL (L : List Int) (c : Nat) : Int := if hasI L c then 1 else 0
theorem inL_nil (c : Nat) : inL [] c = 0 := by simp [inL, hasI, anyP]
theorem inL_bound (L : List Int) (c : Nat) : 0 ≤ inL L c ∧ inL L c ≤ 1 := by unfold inL; split <;> omega
theorem inL_step {L : List Int} {j c0 : Nat} (hj : j < L.length) (hnd : L.Nodup) (h0 : L[j]! = (c0 : Int)) (c : Nat) : inL (L.take (j + 1)) c = inL (L.take j) c + if c = c0 then 1 else 0 := by
  have h0' : L[j] = (c0 : Int) := by rw [← h0, getElem!_pos L j hj]
  have hn : hasI (L.take j) (c0 : Int) = false := by
    cases e : hasI (L.take j) (c0 : Int)
    · rfl
    · rw [hasI_iff, List.mem_take_iff_getElem] at e
      obtain ⟨i, hi, he⟩ := e
      have hij : i < j := by omega
      have := (List.nodup_iff_pairwise_ne.1 hnd)
      rw [List.pairwise_iff_getElem] at this
      exact absurd (he.trans h0'.symm) (this i j (by omega) hj hij)
  have hs : hasI (L.take (j + 1)) (c : Int) = (hasI (L.take j) (c : Int) || decide (c = c0)) := by
    rw [Bool.eq_iff_iff, Bool.or_eq_true, hasI_iff, hasI_iff, take_snoc hj, List.mem_append, h0]
    simp only [List.mem_singleton, decide_eq_true_eq]
    constructor
    · rintro (h | h)
      · exact .inl h
      · exact .inr (by omega)
    · rintro (h | h)
      · exact .inl h
      · exact .inr (by omega)
  unfold inL
  rw [hs]
  by_cases h : c = c0
  · subst h; rw [hn]; simp
  · simp [h]
def rowS (F : Nat → Int) (s : Int) (L : List Int) (j : Nat) : List Int := row6 fun c => F c + s * inL (L.take j) c
@[simp] theorem rowS_len (F : Nat → Int) (s : Int) (L : List Int) (j : Nat) : (rowS F s L j).length = 6 := by simp [rowS]
theorem rowS_zero (F : Nat → Int) (s : Int) (L : List Int) : rowS F s L 0 = row6 F := row6_congr fun c _ => by rw [List.take_zero, inL_nil]; omega
theorem rowS_full (F : Nat → Int) (s : Int) (L : List Int) : rowS F s L L.length = row6 fun c => F c + s * inL L c := row6_congr fun c _ => by rw [List.take_length]
theorem rowS_step {F : Nat → Int} {s : Int} {L : List Int} {j c0 : Nat} (hj : j < L.length) (hnd : L.Nodup) (h0 : L[j]! = (c0 : Int)) (hc0 : c0 < 6) : (rowS F s L j).set c0 ((rowS F s L j)[c0]! + s) = rowS F s L (j + 1) := by
  unfold rowS
  rw [row6_at hc0, row6_set]
  refine row6_congr fun c hc => ?_
  rw [inL_step hj hnd h0 c]
  by_cases h : c = c0
  · subst h; rw [if_pos rfl, if_pos rfl, Int.mul_add]; omega
  · rw [if_neg h, if_neg h, Int.add_zero]
theorem rowS_bound {F : Nat → Int} {s : Int} {L : List Int} {j c : Nat} (hc : c < 6) (hs : s = 1 ∨ s = -1) (hF : -1000 ≤ F c ∧ F c ≤ 1000) : -1001 ≤ (rowS F s L j)[c]! ∧ (rowS F s L j)[c]! ≤ 1001 := by
  unfold rowS
  rw [row6_at hc]
  have := inL_bound (L.take j) c
  rcases hs with rfl | rfl <;> omega
theorem mem_nodup (x : Nat) : (mem x).Nodup := (Go.KD.mem_sorted x).imp fun h => by omega
theorem inL_mem {K c : Nat} (hc : c < 6) : inL (mem K) c = if K.testBit c then 1 else 0 := by
  have : hasI (mem K) (c : Int) = K.testBit c := by
    rw [Bool.eq_iff_iff, hasI_iff, in_mem]
    constructor
    · rintro ⟨i, _, hi, he⟩
      have : c = i := by omega
      rw [this]; exact hi
    · intro h; exact ⟨c, by omega, h, rfl⟩
  unfold inL
  rw [this]
/-- Counts over a list, by a table of sets. -/
def cntL (g : Nat → Nat) (L : List Int) (c : Nat) : Int := (L.countP fun x => (g x.toNat).testBit c : Nat)
theorem cntL_bound (g : Nat → Nat) (L : List Int) (c : Nat) : 0 ≤ cntL g L c ∧ cntL g L c ≤ L.length := by
  unfold cntL
  have : L.countP (fun x => (g x.toNat).testBit c) ≤ L.length := List.countP_le_length
  omega
theorem cntL_step {g : Nat → Nat} {L : List Int} {i x K : Nat} (hi : i < L.length) (hx : L[i]! = (x : Int)) (hK : g x = K) {c : Nat} (hc : c < 6) : cntL g (L.take (i + 1)) c = cntL g (L.take i) c + inL (mem K) c := by
  unfold cntL
  rw [take_snoc hi, List.countP_append, List.countP_singleton, hx, Int.toNat_natCast, hK, inL_mem hc]
  split <;> simp
def keyG (m : Mz) (x : Nat) : Nat := m.keys[x]!.toNat
def doorG (m : Mz) (k : Nat) : Nat := m.doors[k]!.2.2.toNat
theorem leftL_row (m : Mz) (N : Nat) (L : List Int) : leftL m N L = row6 fun c => cntL (keyG m) (mem N) c - cntL (doorG m) L c := rfl
end Go.KD

namespace Go.KD
open Go.RowKit
theorem mem_atZ {n k : Nat} {x : Int} (hk : k < (mem n).length) (h : (mem n)[k]! = x) : ∃ i : Nat, x = i ∧ n.testBit i = true := by
  have hm : x ∈ mem n := by rw [← h, getElem!_pos _ k hk]; exact List.getElem_mem hk
  obtain ⟨i, _, hb, he⟩ := (in_mem n x).1 hm
  exact ⟨i, he, hb⟩
end Go.KD
namespace Go.Proofs.Ytcjcgcgcloanpaa
open Go.RowKit Go.KD
attribute [local go_sem] later_cell later_frozen
set_option maxRecDepth 100000 in
set_option maxHeartbeats 16000000 in
theorem keysLeft_c (v : Value) (m : Mz) (O : Nat) (w : World) (hm : MzAt w v m) (ok : MzOk m) (hO : O < 1073741824) (hOd : ∀ i, O.testBit i = true → i < m.doors.length) : Calls Try.prog 81 #[v, .int .i64 O] w fun e w' =>
    ∃ u, e = .returned u ∧ w'.ownsRow w.heap.size 3 1 u 6 (ints (leftL m (nearN m O) (mem O))) ∧ Below w.heap.size w w' := by
  have hM := hm
  obtain ⟨⟨ad, cd, ak, ck, rfl, hd, hk'⟩, nd, nk⟩ := hM
  obtain ⟨i0, ji, jz0, jz1, jz2⟩ := info_parts infoI
  have hng : m.doors.length ≤ 30 := ok.nd
  have hnk : (m.keys.length : Int) = m.size := ok.nk
  have HNK := Lib.hid hnk; clear hnk
  have HOD := Lib.hid hOd; clear hOd
  have HNIN := Lib.hid (nearN_in ok O)
  have hNl := (nearN_in ok O).lt ok
  have HLR := Lib.hid (leftL_row m (nearN m O) (mem O))
  have OK := Lib.hid ok; clear ok
  have J2 := Lib.hid jz2
  go_enter Try.func81, Try.ntmps81
  go_wp2_with (refine wpList_make_full _ rfl _ _ 25 rfl (w.heap.size + 1) 3 i0 (.int .i64 0) 1 Try.underlying25 ji jz0 jz1 .i64 .i64 _ _ 6 rfl rfl rfl rfl ?_ ?_ (by simp) ?_; (rw [J2.out]; omega); (unfold maxLen; omega); intro w1 hown hg; rw [madeI] at hown; simp only [World.size_alloc] at hown ⊢; have HO1 := Lib.hid hown; have HB1 : Hid (Below (w.heap.size + 1) (w.alloc (.cells #[.int .i64 m.size, .slice ad m.doors.length cd, .slice ak m.keys.length ck] 27)) w1) := (Below.refl _ _).grown hg (by simp) (fun k h => by cases h); obtain ⟨q0, q1, q2, z1⟩ := box3 HB1.out (by omega); clear hown hg)
  have hz1 := (Own.of HO1.out).top _ rfl
  refine (near_c _ m O _ (hm.later (below_box HB1.out (by omega))) OK.out hO).mono ?_
  rintro e w2 ⟨rfl, hb2⟩
  have hz2 := hb2.size
  have HB2 : Hid (Below (w.heap.size + 1) (w.alloc (.cells #[.int .i64 m.size, .slice ad m.doors.length cd, .slice ak m.keys.length ck] 27)) w2) := HB1.out.trans (hb2.mono (by omega))
  have HR2 := Lib.hid (own_below HO1.out hb2)
  obtain ⟨N, hN⟩ : ∃ N, N = nearN m O := ⟨_, rfl⟩
  rw [← hN] at HNIN hNl HLR ⊢
  have HN := Lib.hid hN; clear hN hb2 q0 q1 q2
  go_wp2_with fail
  refine (members_c N (by omega) _).mono ?_
  rintro e w3 ⟨v3, rfl, ho3, hb3⟩
  have HMw3 := Lib.hid (Own.of ho3)
  obtain ⟨a3, c3, rfl, -, -⟩ := (Own.of ho3).ic
  have hzw3 : w.heap.size + 2 ≤ w2.heap.size := by omega
  have hzz3 := hb3.size
  have HBw3 : Hid (Below (w.heap.size + 1) (w.alloc (.cells #[.int .i64 m.size, .slice ad m.doors.length cd, .slice ak m.keys.length ck] 27)) w3) := HB2.out.trans (hb3.mono (by omega))
  have HRw3 : Hid (w3.ownsRow (w.heap.size + 1) 3 1 (.slice (some ⟨w.heap.size + 1, 0, none⟩) 6 6) 6 (ints (row6 (fun c => cntL (keyG m) ((mem N).take 0) c)))) := own_below HR2.out hb3
  clear ho3 hb3
  go_wp2
  go_loopw [20] (fun i wr => ∃ k : Nat, k ≤ (mem N).length ∧ i = .int .i64 k ∧ Chg (w.heap.size + 1) (w.heap.size + 2) w3 wr ∧ Below (w.heap.size + 1) (w.alloc (.cells #[.int .i64 m.size, .slice ad m.doors.length cd, .slice ak m.keys.length ck] 27)) wr ∧ Hid (wr.ownsRow (w.heap.size + 1) 3 1 (.slice (some ⟨w.heap.size + 1, 0, none⟩) 6 6) 6 (ints (row6 (fun c => cntL (keyG m) ((mem N).take k) c))))) (fun i _ => (mem N).length - (intOf i).toNat)
  case atStart => exact ⟨0, Nat.zero_le _, rfl, Chg.of_below (Below.refl _ _), HBw3.out, HRw3.out⟩
  case round =>
    obtain ⟨wo, rfl⟩ : ∃ wo : World, wo = wr := ⟨_, rfl⟩
    obtain ⟨k, hk, rfl, hch, hb, HO⟩ := hrel
    have HBo := Lib.hid hb
    have HCo := Lib.hid hch
    have h40L := mem_len40z N
    by_cases hlt : k < (mem N).length
    · have hkI : (k : Int) < ((mem N).length : Int) := by omega
      obtain ⟨b, off, x, hax, HX, hbs, e0⟩ := (ic_of (HMw3.out.chg hch (.inr (by have := hzw3; omega)))).at k hlt
      cases hax
      obtain ⟨xn, hxe, hxb⟩ := mem_atZ hlt HX.out
      subst hxe
      have HXB := Lib.hid hxb
      have hxk : xn < m.keys.length := by have := HNIN.out xn hxb; have := HNK.out; omega
      have hxI : (xn : Int) < (m.keys.length : Int) := by omega
      have hky := key_facts OK.out hxk
      obtain ⟨b2, off2, y, hay, HY, hbs2, e1⟩ := (hk'.later (below_box HBo.out (by omega))).at xn hxk
      subst hay
      rw [HY.out] at hky
      obtain ⟨K, rfl⟩ := Int.eq_ofNat_of_zero_le hky.1
      have HG : Hid (keyG m xn = K) := by show _ = _; unfold keyG; rw [HY.out]; rfl
      have HFS : Hid (row6 (fun c => cntL (keyG m) ((mem N).take (k + 1)) c) = row6 (fun c => (fun c => cntL (keyG m) ((mem N).take k) c) c + 1 * inL (mem K) c)) := row6_congr fun c hc => by
        have := cntL_step hlt HX.out HG.out hc
        dsimp only
        omega
      have HF1 : Hid (∀ c, -1000 ≤ (fun c => cntL (keyG m) ((mem N).take k) c) c ∧ (fun c => cntL (keyG m) ((mem N).take k) c) c ≤ 1000) := fun c => by
        have h1 := cntL_bound (keyG m) ((mem N).take k) c
        have h2 := mem_len40z N
        have h3 : ((mem N).take k).length ≤ (mem N).length := by simp; omega
      
        dsimp only
        omega
      obtain ⟨F, hF⟩ : ∃ F, F = (fun c => cntL (keyG m) ((mem N).take k) c) := ⟨_, rfl⟩
      rw [← hF] at HFS HF1 HO
      obtain ⟨q0, q1, q2, z3⟩ := box3 HBo.out (by omega)
      clear hF hxb hch hb
      have h40K := mem_len40z K
      go_wp2_with fail
      refine (members_c K (by omega) _).mono ?_
      rintro e wm ⟨vm, rfl, hom, hbm⟩
      obtain ⟨am, cm, rfl, -, -⟩ := (Own.of hom).ic
      have hzm := hbm.size
      have hzo : w.heap.size + 1 < wo.heap.size := by have := HCo.out.size; omega
      have HMm := Lib.hid (Own.of hom)
      have HBm : Hid (Below (w.heap.size + 1) (w.alloc (.cells #[.int .i64 m.size, .slice ad m.doors.length cd, .slice (some ⟨b2, off2, none⟩) m.keys.length ck] 27)) wm) := HBo.out.trans ( (hbm.mono ((by first | omega | (simp; done) | (simp; omega) | (dsimp only; omega)))))
      have HCm : Hid (Chg (w.heap.size + 1) (w.heap.size + 2) w3 wm) := HCo.out.trans (Chg.of_below ( (hbm.mono ((by first | omega | (simp; done) | (simp; omega) | (dsimp only; omega))))))
      have HRm : Hid (wm.ownsRow (w.heap.size + 1) 3 1 (.slice (some ⟨w.heap.size + 1, 0, none⟩) 6 6) 6 (ints (rowS F 1 (mem K) 0))) := by rw [rowS_zero]; exact own_below HO.out ( (hbm.mono ((by first | omega | (simp; done) | (simp; omega) | (dsimp only; omega)))))
      have HK6 : Hid (∀ j i, (mem K)[j]! = ((i : Nat) : Int) → j < (mem K).length → i < 6) := fun j i h hj => by
        obtain ⟨i', h1, h2⟩ := mem_atZ hj h
        have := bit_lt (n := 6) (by omega) h2
        omega
      clear e0 e1 hbm hom q0 q1 q2
      go_wp2
      go_loopw [31] (fun c wr => ∃ i : Nat, i ≤ (mem K).length ∧ c = .int .i64 i ∧ Chg (w.heap.size + 1) (w.heap.size + 2) wm wr ∧ Below (w.heap.size + 1) (w.alloc (.cells #[.int .i64 m.size, .slice ad m.doors.length cd, .slice (some ⟨b2, off2, none⟩) m.keys.length ck] 27)) wr ∧ Hid (wr.ownsRow (w.heap.size + 1) 3 1 (.slice (some ⟨w.heap.size + 1, 0, none⟩) 6 6) 6 (ints (rowS F 1 (mem K) i)))) (fun c _ => (mem K).length - (intOf c).toNat)
      case atStart => exact ⟨0, Nat.zero_le _, rfl, Chg.of_below (Below.refl _ _), HBm.out, HRm.out⟩
      case round =>
        obtain ⟨wi, rfl⟩ : ∃ wi : World, wi = wr := ⟨_, rfl⟩
        obtain ⟨i, hi, rfl, hci, hbi, HOi⟩ := hrel
        have HBi := Lib.hid hbi
        have HCI := Lib.hid hci
        by_cases hil : i < (mem K).length
        · have hiI : (i : Int) < ((mem K).length : Int) := by omega
          obtain ⟨b4, off4, c4, hac, HC, hbs4, e4⟩ := (ic_of (HMm.out.chg hci (.inr (by omega)))).at i hil
          cases hac
          obtain ⟨cn, hce, hcb⟩ := mem_atZ hil HC.out
          subst hce
          have hc6 := HK6.out i cn HC.out hil
          have hcI : (cn : Int) < 6 := by omega
          have e5 := own_intZ HOi.out cn hc6 (by simp)
          have f5 : wi.frozen? ⟨w.heap.size + 1, cn, none⟩ = false := HOi.out.frozenAt _
          have HST : Hid ((rowS F 1 (mem K) i).set cn ((rowS F 1 (mem K) i)[cn]! + 1) = rowS F 1 (mem K) (i + 1)) := rowS_step hil (mem_nodup K) HC.out hc6
          have hov := rowS_bound (L := mem K) (j := i) hc6 (.inl rfl : (1 : Int) = 1 ∨ (1 : Int) = -1) (HF1.out cn)
          obtain ⟨ov, hove⟩ : ∃ ov, ov = (rowS F 1 (mem K) i)[cn]! := ⟨_, rfl⟩
          rw [← hove] at e5 hov HST
          have hw : IntKind.i64.wrap (ov + 1) = ov + 1 := by rw [IntKind.wrap_i64]; omega
          have HVS : Hid (ov + 1 = ov + 1) := by show _ = _; omega
          clear hci hbi hcb hove
          go_wp2
          go_roundw
          case rel =>
            have st := own_store1 HOi.out cn (ov + 1)
            rw [HST.out, ← HVS.out] at st
            exact ⟨i + 1, by omega, by go_num, HCI.out.trans (Chg.of_grown st.2 (fun g' hg => by cases hg; omega)), HBi.out.setCell (p := ⟨w.heap.size + 1, cn, none⟩) (Nat.le_refl _) _, st.1⟩
          case measure => simp [intOf]; omega
        · obtain rfl : i = (mem K).length := by omega
          clear hci hbi
          go_wp2
          go_roundw
          case rel => exact ⟨k + 1, by omega, by go_num, HCm.out.trans HCI.out, HBi.out, by rw [HFS.out, ← rowS_full]; exact HOi.out⟩
          case measure => simp [intOf]; omega
    · obtain rfl : k = (mem N).length := by omega
      clear hch hb
      have HRF : Hid (wo.ownsRow (w.heap.size + 1) 3 1 (.slice (some ⟨w.heap.size + 1, 0, none⟩) 6 6) 6 (ints (row6 (fun c => cntL (keyG m) (mem N) c - cntL (doorG m) ((mem O).take 0) c)))) := by
        have h := HO.out
        rw [List.take_length] at h
        have e : row6 (fun c => cntL (keyG m) (mem N) c - cntL (doorG m) ((mem O).take 0) c) = row6 (fun c => cntL (keyG m) (mem N) c) := row6_congr fun c _ => by
          have : cntL (doorG m) ((mem O).take 0) c = 0 := by simp [cntL]
          omega
        show World.ownsRow _ _ _ _ _ _ _
        rw [e]; exact h
      have hzo : w.heap.size + 1 < wo.heap.size := by have := HCo.out.size; omega
      go_wp2_with fail
      refine (members_c O hO _).mono ?_
      rintro e w4 ⟨v4, rfl, ho4, hb4⟩
      have HMw4 := Lib.hid (Own.of ho4)
      obtain ⟨a4, c4, rfl, -, -⟩ := (Own.of ho4).ic
      have hzw4 : w.heap.size + 2 ≤ wo.heap.size := hzo
      have hzz4 := hb4.size
      have HBw4 : Hid (Below (w.heap.size + 1) (w.alloc (.cells #[.int .i64 m.size, .slice ad m.doors.length cd, .slice ak m.keys.length ck] 27)) w4) := HBo.out.trans (hb4.mono (by omega))
      have HRw4 := Lib.hid (own_below HRF.out hb4)
      clear ho4 hb4 HO HRF HBo HCo hzo
      obtain ⟨w3b, hw3b⟩ : ∃ w3b, w3b = wo := ⟨_, rfl⟩
      rw [← hw3b] at *
      clear hw3b
      go_wp2
      go_loopw [46] (fun i wr => ∃ k : Nat, k ≤ (mem O).length ∧ i = .int .i64 k ∧ Chg (w.heap.size + 1) (w.heap.size + 2) w4 wr ∧ Below (w.heap.size + 1) (w.alloc (.cells #[.int .i64 m.size, .slice ad m.doors.length cd, .slice ak m.keys.length ck] 27)) wr ∧ Hid (wr.ownsRow (w.heap.size + 1) 3 1 (.slice (some ⟨w.heap.size + 1, 0, none⟩) 6 6) 6 (ints (row6 (fun c => cntL (keyG m) (mem N) c - cntL (doorG m) ((mem O).take k) c))))) (fun i _ => (mem O).length - (intOf i).toNat)
      case atStart => exact ⟨0, Nat.zero_le _, rfl, Chg.of_below (Below.refl _ _), HBw4.out, HRw4.out⟩
      case round =>
        obtain ⟨wo, rfl⟩ : ∃ wo : World, wo = wr := ⟨_, rfl⟩
        obtain ⟨k, hk, rfl, hch, hb, HO⟩ := hrel
        have HBo := Lib.hid hb
        have HCo := Lib.hid hch
        have h40L := mem_len40z O
        by_cases hlt : k < (mem O).length
        · have hkI : (k : Int) < ((mem O).length : Int) := by omega
          obtain ⟨b, off, x, hax, HX, hbs, e0⟩ := (ic_of (HMw4.out.chg hch (.inr (by have := hzw4; omega)))).at k hlt
          cases hax
          obtain ⟨xn, hxe, hxb⟩ := mem_atZ hlt HX.out
          subst hxe
          have HXB := Lib.hid hxb
          have hxk : xn < m.doors.length := HOD.out xn hxb
          have hxI : (xn : Int) < (m.doors.length : Int) := by omega
          obtain ⟨b2, off2, y0, y1, y, hay, HY, hbs2, e1x, e1y, e1⟩ := (hd.later (below_box HBo.out (by omega))).at xn hxk
          subst hay
          obtain ⟨f1, f2, f3, f4, f5⟩ := door_facts OK.out hxk HY.out
          obtain ⟨K, rfl⟩ := Int.eq_ofNat_of_zero_le f4
          have hky : (0 : Int) ≤ K ∧ (K : Int) < 64 := ⟨f4, f5⟩
          have HG : Hid (doorG m xn = K) := by show _ = _; unfold doorG; rw [HY.out]; rfl
          clear f1 f2 f3 f4 f5
          have HFS : Hid (row6 (fun c => cntL (keyG m) (mem N) c - cntL (doorG m) ((mem O).take (k + 1)) c) = row6 (fun c => (fun c => cntL (keyG m) (mem N) c - cntL (doorG m) ((mem O).take k) c) c + (-1) * inL (mem K) c)) := row6_congr fun c hc => by
            have := cntL_step hlt HX.out HG.out hc
            dsimp only
            omega
          have HF1 : Hid (∀ c, -1000 ≤ (fun c => cntL (keyG m) (mem N) c - cntL (doorG m) ((mem O).take k) c) c ∧ (fun c => cntL (keyG m) (mem N) c - cntL (doorG m) ((mem O).take k) c) c ≤ 1000) := fun c => by
            have h1 := cntL_bound (keyG m) (mem N) c
            have h2 := mem_len40z N
            have h3 : True := trivial
            have h4 := cntL_bound (doorG m) ((mem O).take k) c; have h5 := mem_len40z O; have h6 : ((mem O).take k).length ≤ (mem O).length := by simp; omega
            dsimp only
            omega
          obtain ⟨F, hF⟩ : ∃ F, F = (fun c => cntL (keyG m) (mem N) c - cntL (doorG m) ((mem O).take k) c) := ⟨_, rfl⟩
          rw [← hF] at HFS HF1 HO
          obtain ⟨q0, q1, q2, z3⟩ := box3 HBo.out (by omega)
          clear hF hxb hch hb
          have h40K := mem_len40z K
          go_wp2_with fail
          refine (members_c K (by omega) _).mono ?_
          rintro e wm ⟨vm, rfl, hom, hbm⟩
          obtain ⟨am, cm, rfl, -, -⟩ := (Own.of hom).ic
          have hzm := hbm.size
          have hzo : w.heap.size + 1 < wo.heap.size := by have := HCo.out.size; omega
          have HMm := Lib.hid (Own.of hom)
          have HBm : Hid (Below (w.heap.size + 1) (w.alloc (.cells #[.int .i64 m.size, .slice (some ⟨b2, off2, none⟩) m.doors.length cd, .slice ak m.keys.length ck] 27)) wm) := HBo.out.trans ( (hbm.mono ((by first | omega | (simp; done) | (simp; omega) | (dsimp only; omega)))))
          have HCm : Hid (Chg (w.heap.size + 1) (w.heap.size + 2) w4 wm) := HCo.out.trans (Chg.of_below ( (hbm.mono ((by first | omega | (simp; done) | (simp; omega) | (dsimp only; omega))))))
          have HRm : Hid (wm.ownsRow (w.heap.size + 1) 3 1 (.slice (some ⟨w.heap.size + 1, 0, none⟩) 6 6) 6 (ints (rowS F (-1) (mem K) 0))) := by rw [rowS_zero]; exact own_below HO.out ( (hbm.mono ((by first | omega | (simp; done) | (simp; omega) | (dsimp only; omega)))))
          have HK6 : Hid (∀ j i, (mem K)[j]! = ((i : Nat) : Int) → j < (mem K).length → i < 6) := fun j i h hj => by
            obtain ⟨i', h1, h2⟩ := mem_atZ hj h
            have := bit_lt (n := 6) (by omega) h2
            omega
          clear e0 e1 hbm hom q0 q1 q2 e1x e1y
          go_wp2
          go_loopw [58] (fun c wr => ∃ i : Nat, i ≤ (mem K).length ∧ c = .int .i64 i ∧ Chg (w.heap.size + 1) (w.heap.size + 2) wm wr ∧ Below (w.heap.size + 1) (w.alloc (.cells #[.int .i64 m.size, .slice (some ⟨b2, off2, none⟩) m.doors.length cd, .slice ak m.keys.length ck] 27)) wr ∧ Hid (wr.ownsRow (w.heap.size + 1) 3 1 (.slice (some ⟨w.heap.size + 1, 0, none⟩) 6 6) 6 (ints (rowS F (-1) (mem K) i)))) (fun c _ => (mem K).length - (intOf c).toNat)
          case atStart => exact ⟨0, Nat.zero_le _, rfl, Chg.of_below (Below.refl _ _), HBm.out, HRm.out⟩
          case round =>
            obtain ⟨wi, rfl⟩ : ∃ wi : World, wi = wr := ⟨_, rfl⟩
            obtain ⟨i, hi, rfl, hci, hbi, HOi⟩ := hrel
            have HBi := Lib.hid hbi
            have HCI := Lib.hid hci
            by_cases hil : i < (mem K).length
            · have hiI : (i : Int) < ((mem K).length : Int) := by omega
              obtain ⟨b4, off4, c4, hac, HC, hbs4, e4⟩ := (ic_of (HMm.out.chg hci (.inr (by omega)))).at i hil
              cases hac
              obtain ⟨cn, hce, hcb⟩ := mem_atZ hil HC.out
              subst hce
              have hc6 := HK6.out i cn HC.out hil
              have hcI : (cn : Int) < 6 := by omega
              have e5 := own_intZ HOi.out cn hc6 (by simp)
              have f5 : wi.frozen? ⟨w.heap.size + 1, cn, none⟩ = false := HOi.out.frozenAt _
              have HST : Hid ((rowS F (-1) (mem K) i).set cn ((rowS F (-1) (mem K) i)[cn]! + (-1)) = rowS F (-1) (mem K) (i + 1)) := rowS_step hil (mem_nodup K) HC.out hc6
              have hov := rowS_bound (L := mem K) (j := i) hc6 (.inr rfl : ((-1) : Int) = 1 ∨ ((-1) : Int) = -1) (HF1.out cn)
              obtain ⟨ov, hove⟩ : ∃ ov, ov = (rowS F (-1) (mem K) i)[cn]! := ⟨_, rfl⟩
              rw [← hove] at e5 hov HST
              have hw : IntKind.i64.wrap (ov - 1) = ov - 1 := by rw [IntKind.wrap_i64]; omega
              have HVS : Hid (ov - 1 = ov + (-1)) := by show _ = _; omega
              clear hci hbi hcb hove
              go_wp2
              go_roundw
              case rel =>
                have st := own_store1 HOi.out cn (ov + (-1))
                rw [HST.out, ← HVS.out] at st
                exact ⟨i + 1, by omega, by go_num, HCI.out.trans (Chg.of_grown st.2 (fun g' hg => by cases hg; omega)), HBi.out.setCell (p := ⟨w.heap.size + 1, cn, none⟩) (Nat.le_refl _) _, st.1⟩
              case measure => simp [intOf]; omega
            · obtain rfl : i = (mem K).length := by omega
              clear hci hbi
              go_wp2
              go_roundw
              case rel => exact ⟨k + 1, by omega, by go_num, HCm.out.trans HCI.out, HBi.out, by rw [HFS.out, ← rowS_full]; exact HOi.out⟩
              case measure => simp [intOf]; omega
        · obtain rfl : k = (mem O).length := by omega
          clear hch hb
          have HRF : Hid (wo.ownsRow (w.heap.size + 1) 3 1 (.slice (some ⟨w.heap.size + 1, 0, none⟩) 6 6) 6 (ints (leftL m (nearN m O) (mem O)))) := by
            have h := HO.out
            rw [List.take_length, ← HLR.out, HN.out] at h
            exact h
          have HBf := Lib.hid (below_box HBo.out (by omega))
          clear HO
          go_wp2
          go_ret
          exact ⟨_, rfl, (Own.mono (Own.of HRF.out) (by omega) (Nat.le_refl _)).row, HBf.out⟩
end Go.Proofs.Ytcjcgcgcloanpaa
