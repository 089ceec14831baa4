/- Contracts of l5Largest, slices.Max, entryOrder, l5Full. -/
import Derived.Test.YtbjcabphiddjgaaKdNode2
import Derived.Test.YtbjcabphiddjgaaKdNext
set_option linter.unusedVariables false
set_option linter.unusedSimpArgs false
namespace Go.KD
open Go.RowKit
def addC (code a : Nat) (x : Int) : Nat := if code.testBit x.toNat then setN a x else a
def addK (code out : Nat) (l : List Int) (j : Nat) : Nat := (l.take j).foldl (addC code) out
theorem addK_step {code out : Nat} {l : List Int} {j : Nat} (h : j < l.length) : addK code out l (j + 1) = addC code (addK code out l j) l[j]! := by
  unfold addK
  rw [take_snoc h, List.foldl_append]
  rfl
theorem addC_bit (code a : Nat) (x : Int) (i : Nat) : (addC code a x).testBit i = (a.testBit i || (decide (x.toNat = i) && code.testBit i)) := by
  unfold addC
  by_cases hx : x.toNat = i
  · subst hx
    split
    · rename_i h; rw [setN_bit, h]; simp
    · rename_i h; simp [h]
  · split
    · rw [setN_bit]; simp [hx]
    · simp [hx]
theorem fold_addC (code i : Nat) : ∀ (l : List Int) (a : Nat), (l.foldl (addC code) a).testBit i = (a.testBit i || (l.any (fun x => decide (x.toNat = i)) && code.testBit i))
  | [], a => by simp
  | x :: l, a => by
    rw [List.foldl_cons, fold_addC code i l, addC_bit, List.any_cons]
    cases a.testBit i <;> cases decide (x.toNat = i) <;> cases code.testBit i <;> simp
theorem addK_all {m : Mz} (ok : MzOk m) (code out : Nat) : addK code out (mem (nexN m out)) (mem (nexN m out)).length = lgN m code out := by
  apply Nat.eq_of_testBit_eq
  intro i
  unfold addK lgN
  rw [List.take_length, fold_addC, Nat.testBit_or, Nat.testBit_and]
  congr 2
  rw [Bool.eq_iff_iff, List.any_eq_true]
  constructor
  · rintro ⟨x, hx, h⟩
    obtain ⟨j, _, hj, rfl⟩ := (in_mem _ _).1 hx
    have : j = i := by simpa using h
    rwa [← this]
  · intro h
    exact ⟨i, (in_mem _ _).2 ⟨i, by have := bit_lt (n := 12) (nexN_lt ok out) h; omega, h, rfl⟩, by simp⟩
theorem addK_lt {m : Mz} (ok : MzOk m) (code : Nat) {out : Nat} (ho : out < 4096) (j : Nat) : addK code out (mem (nexN m out)) j < 4096 := by
  refine lt_of_bits (n := 12) fun i hi => ?_
  unfold addK at hi
  rw [fold_addC, Bool.or_eq_true, Bool.and_eq_true, List.any_eq_true] at hi
  rcases hi with hi | ⟨⟨x, hx, h⟩, _⟩
  · exact bit_lt (n := 12) ho hi
  · obtain ⟨j, _, hj, rfl⟩ := (in_mem _ _).1 (List.mem_of_mem_take hx)
    have : j = i := by simpa using h
    rw [← this]
    exact bit_lt (n := 12) (nexN_lt ok out) hj
theorem pick_last (l : List Int) : pickN true l = l[l.length - 1]! := rfl
theorem pick_first (l : List Int) : pickN false l = l[0]! := rfl
theorem fuK_in' {m : Mz} (ok : MzOk m) (last : Bool) : ∀ k, InM m (fuK m last k).2
  | 0, i, hi => by
    have hi : Nat.testBit 1 i = true := hi
    have : i < 1 := bit_lt (n := 1) (by decide) hi
    have := ok.s1; omega
  | k + 1, i, hi => by
    have hl := fuK_lt ok last k
    have hi : (fuS m last (fuK m last k)).2.testBit i = true := hi
    by_cases h : nexN m (fuK m last k).2 = 0
    · rw [fuS, if_pos h] at hi; exact fuK_in' ok last k i hi
    · obtain ⟨j, he, _, _, hs, _⟩ := pick_next ok last hl h
      rw [fuS, if_neg h, he] at hi
      have hi : (setN (fuK m last k).2 (j : Int)).testBit i = true := hi
      rw [setN_bit, Bool.or_eq_true] at hi
      rcases hi with hi | hi
      · exact fuK_in' ok last k i hi
      · have : j = i := by simpa using hi
        rw [← this]; exact hs
end Go.KD
namespace Go.Proofs.Ytbjcabphiddjgaa
open Go.RowKit Go.KD
attribute [local go_sem] later_cell later_frozen
set_option maxRecDepth 100000 in
set_option maxHeartbeats 4000000 in
theorem l5Largest_c (v : Value) (m : Mz) (n : Nat) (w : World) (hm : MzAt w v m) (ok : MzOk m) (hin : InM m n) (h0 : n.testBit 0 = true) :
    Calls Try.prog 66 #[v, .int .i64 n] w fun e w' => e = .returned (.int .i64 (largN m n)) ∧ Below w.heap.size w w' := by
  have hM := hm
  obtain ⟨⟨ad, cd, ak, ck, rfl, hd, hk'⟩, nd, nk⟩ := hM
  have hn := hin.lt ok
  have HI : Hid (∀ k, InM m (itL m n k)) := fun k i hi => hin i (itL_in k i hi)
  have HL := Lib.hid (itL_lt ok n)
  have HN := Lib.hid (nexN_lt ok)
  have H1 : Hid (itL m n 0 = 1) := by
    show n &&& 1 = 1
    rw [Nat.and_one_is_mod]
    rw [Nat.testBit_zero] at h0
    simpa using h0
  have OK := Lib.hid ok; clear ok
  go_enter Try.func66, Try.ntmps66
  go_wp2
  go_loopw [5] (fun o wr => ∃ k : Nat, o = .int .i64 (itL m n k) ∧ k ≤ itL m n k ∧ Below (w.heap.size + 1) (w.alloc (.cells #[.int .i64 m.size, .slice ad m.doors.length cd, .slice ak m.keys.length ck] 29)) wr) (fun o _ => 4096 - (intOf o).toNat)
  case atStart => exact ⟨0, by rw [H1.out]; rfl, Nat.zero_le _, Below.refl _ _⟩
  case round =>
    obtain ⟨wo, rfl⟩ : ∃ wo : World, wo = wr := ⟨_, rfl⟩
    obtain ⟨k, rfl, hk, hb⟩ := hrel
    have HBo := Lib.hid hb
    have HB := Lib.hid (below_box hb (by omega))
    obtain ⟨q0, q1, q2, z3⟩ := box3 hb (by omega)
    clear hb
    have hs := HL.out k
    have HAL := Lib.hid (addK_lt OK.out n hs)
    have HAE := Lib.hid (addK_all OK.out n (itL m n k))
    have hIk := HI.out k
    have HS : Hid (itL m n (k + 1) = lgN m n (itL m n k)) := rfl
    have HE : Hid (lgN m n (itL m n k) = itL m n k → largN m n = itL m n k) := fun h => largN_end OK.out hk (lgN_same h)
    have HG : Hid (lgN m n (itL m n k) ≠ itL m n k → itL m n k < lgN m n (itL m n k)) := fun h => lgN_grows fun h0 => h (by unfold lgN; rw [h0]; exact Nat.or_zero _)
    obtain ⟨sN, hsN⟩ : ∃ sN, sN = itL m n k := ⟨_, rfl⟩
    rw [← hsN] at hs hk hIk HAL HAE HS HE HG ⊢
    have HSN := Lib.hid hsN; clear hsN
    have HX := HN.out sN
    go_wp2_with fail
    refine (l5Next_c _ m sN _ (hm.later HB.out) OK.out hIk).mono ?_
    rintro e w2 ⟨v2, rfl, ho2, hb2⟩
    obtain ⟨a2, c2, rfl, -, hc2⟩ := (Own.of ho2).ic
    have HB2 := Lib.hid (below_then HB.out hb2)
    have HBo2 : Hid (Below (w.heap.size + 1) (w.alloc (.cells #[.int .i64 m.size, .slice ad m.doors.length cd, .slice ak m.keys.length ck] 29)) w2) := HBo.out.trans (hb2.mono (by omega))
    have hml : (mem (nexN m sN)).length ≤ 40 := by rw [mem_eq]; exact memK_len _ _
    have hLm : Hid (∀ k x, k < (mem (nexN m sN)).length → (mem (nexN m sN))[k]! = x → ∃ i : Nat, x = i ∧ i < 12) := fun k x hk hx => by
      obtain ⟨i, h1, h2⟩ := mem_at hk hx
      exact ⟨i, h1, bit_lt (n := 12) HX h2⟩
    obtain ⟨L, hL⟩ : ∃ L, L = mem (nexN m sN) := ⟨_, rfl⟩
    rw [← hL] at hc2 hml hLm HAL HAE ⊢
    clear ho2 hb2 hL
    go_wp2
    go_loop [5, 8] (fun o i => ∃ j : Nat, j ≤ L.length ∧ i = .int .i64 j ∧ o = .int .i64 (addK n sN L j)) (fun _ i => L.length - (intOf i).toNat)
    case atStart => exact ⟨0, Nat.zero_le _, rfl, rfl⟩
    case round =>
      obtain ⟨j, hj, rfl, rfl⟩ := hrel
      have hA := HAL.out j
      by_cases hlt : j < L.length
      · obtain ⟨b, off, x, rfl, HXx, hbs, e0⟩ := hc2.at j hlt
        obtain ⟨i, rfl, hi12⟩ := hLm.out j x hlt HXx.out
        have HST : Hid (addK n sN L (j + 1) = addC n (addK n sN L j) (i : Int)) := by show _ = _; rw [addK_step hlt, HXx.out]
        obtain ⟨aN, haN⟩ : ∃ aN, aN = addK n sN L j := ⟨_, rfl⟩
        rw [← haN] at hA HST ⊢
        clear haN
        have hi0 : (0 : Int) ≤ (i : Int) := by omega
        have hi1 : (i : Int) ≤ 63 := by omega
        have hi2 : (i : Int) < 12 := by omega
        obtain ⟨y, HY, ey⟩ := shr_at n i
        have hy : y < 1099511627776 := by
          have := HY.out; rw [Nat.shiftRight_eq_div_pow] at *; have := Nat.div_le_self n (2 ^ i); omega
        have HA := Lib.hid (and1 hy)
        have HBB := Lib.hid (bit_shr n i)
        obtain ⟨p, HP, ep, hp⟩ := shl_at i hi12
        clear hy
        cases hbit : n.testBit i
        · have ea : bits .and .i64 (y : Int) 1 = 0 := by rw [HA.out, HY.out, HBB.out, hbit]; rfl
          have HBI := Lib.hid hbit; clear hbit
          go_wp2
          go_round
          case rel => exact ⟨j + 1, by omega, by go_num, by rw [HST.out]; simp [addC, HBI.out]⟩
          case measure => simp [intOf]; omega
        · have ea : bits .and .i64 (y : Int) 1 = 1 := by rw [HA.out, HY.out, HBB.out, hbit]; rfl
          have eo : bits .or .i64 (aN : Int) (p : Int) = ((aN ||| p : Nat) : Int) := i64_or aN p (by omega) (by omega)
          have HBI := Lib.hid hbit; clear hbit
          go_wp2
          go_round
          case rel => exact ⟨j + 1, by omega, by go_num, by rw [HST.out]; simp [addC, HBI.out, setN, HP.out]⟩
          case measure => simp [intOf]; omega
      · obtain rfl : j = L.length := by omega
        rw [HAE.out]
        cases hbe : decide (lgN m n sN = sN)
        · have hne : lgN m n sN ≠ sN := by simpa using hbe
          have hgr := HG.out hne
          obtain ⟨tN, htN⟩ : ∃ tN, tN = lgN m n sN := ⟨_, rfl⟩
          rw [← htN] at hgr HS ⊢
          have HT := Lib.hid hgr
          have hq : ¬ ((tN : Int) = (sN : Int)) := by omega
          clear hbe hne htN hgr
          go_wp2
          go_roundw
          case rel => exact ⟨k + 1, by rw [HS.out], by have := HS.out; have := HT.out; omega, HBo2.out⟩
          case measure => have := HT.out; have := HSN.out; simp [intOf]; omega
        · have he : lgN m n sN = sN := by simpa using hbe
          have HF := Lib.hid (HE.out he)
          rw [he]
          clear hbe he
          go_wp2
          go_ret
          exact ⟨ret_int (by rw [HF.out]), HB2.out⟩
set_option maxHeartbeats 1000000 in
theorem max_c (a : Option Addr) (cap n : Nat) (l : List Int) (x : Int) (w : World) (hn : n = l.length) (hA : IC w a l) (hl : n ≤ 1048576) (hpos : 0 < n) (hs : l.Pairwise (· < ·)) (hx : l[n - 1]! = x) : Calls Try.prog 55 #[.slice a n cap] w fun e w' => e = .returned (.int .i64 x) ∧ w = w' := by
  have HN := Lib.hid hn
  have HX := Lib.hid hx
  have HS : Hid (∀ k, 1 ≤ k → k < l.length → l[k - 1]! < l[k]!) := fun k h1 h2 => by
    rw [List.pairwise_iff_getElem] at hs
    have := hs (k - 1) k (by omega) h2 (by omega)
    rwa [getElem!_pos l (k - 1) (by omega), getElem!_pos l k h2]
  obtain ⟨b, off, y, rfl, HY, hbs, e0⟩ := hA.at 0 (by omega)
  rw [Nat.add_zero] at e0
  have hn1 : ¬ ((n : Int) < 1) := by omega
  have hn0 : (0 : Int) < (n : Int) := by omega
  clear hs hn hx
  go_enter Try.func55, Try.ntmps55
  go_wp2
  go_loop [3, 4] (fun m i => ∃ k : Nat, 1 ≤ k ∧ k ≤ n ∧ i = .int .i64 k ∧ m = .int .i64 l[k - 1]!) (fun _ i => n - (intOf i).toNat)
  case atStart => exact ⟨1, by omega, by omega, rfl, by rw [show 1 - 1 = 0 from rfl, HY.out]⟩
  case round =>
    obtain ⟨k, hk1, hk, rfl, rfl⟩ := hrel
    by_cases hlt : k < n
    · have hlt' : k < l.length := by rw [← HN.out]; exact hlt
      obtain ⟨b2, off2, z, hb2, HZ, hbs2, e1⟩ := hA.at k hlt'
      cases hb2
      have hz := HS.out k hk1 hlt'
      rw [HZ.out] at hz
      obtain ⟨u, hu⟩ : ∃ u, u = l[k - 1]! := ⟨_, rfl⟩
      rw [← hu] at hz ⊢
      clear hu
      have hkn : (k : Int) < (n : Int) := by omega
      go_wp2
      go_round
      case rel => exact ⟨k + 1, by omega, by omega, by go_num, by rw [show k + 1 - 1 = k from rfl, HZ.out]⟩
      case measure => simp [intOf]; omega
    · obtain rfl : k = n := by omega
      go_wp2
      go_ret
      exact ⟨ret_int (by have := HX.out; simpa using this), rfl⟩
set_option maxRecDepth 100000 in
set_option maxHeartbeats 4000000 in
theorem entryOrder_c (v : Value) (m : Mz) (w : World) (hm : MzAt w v m) (ok : MzOk m) :
    Calls Try.prog 54 #[v, .func (.func 55) #[] #[]] w fun e w' => ∃ u, e = .returned u ∧ w'.ownsRow w.heap.size 3 1 u (fullL m true).length (ints (fullL m true)) ∧ Below w.heap.size w w' := by
  have hM := hm
  obtain ⟨⟨ad, cd, ak, ck, rfl, hd, hk'⟩, nd, nk⟩ := hM
  obtain ⟨i0, ji, jz0, jz1, jz2⟩ := info_parts infoI
  have hcf := run_callFunc (P := Try.prog) Try.func55 (by kernel_rfl) (by kernel_rfl)
  have HI := Lib.hid (fuK_in' ok true)
  have HL := Lib.hid (fuK_lt ok true)
  have HLen := Lib.hid (fuK_len ok true)
  have HN := Lib.hid (nexN_lt ok)
  have OK := Lib.hid ok; clear ok
  go_enter Try.func54, Try.ntmps54
  go_wp2_with fail
  refine (nexts_c _ m 1 _ (hm.later (by (repeat (first | exact Below.refl _ _ | apply Below.drew | apply below_drewN | (refine Below.setCell ?_ (by first | omega | (simp; done) | (simp; omega) | (dsimp only; omega)) _) | (refine Below.alloc ?_ (by first | omega | (simp; done) | (simp; omega) | (dsimp only; omega)) _))))) OK.out (HI.out 0)).mono ?_
  rintro e w1 ⟨rfl, hb1⟩
  have HB1 : Hid (Below (w.heap.size + 1) (w.alloc (.cells #[.int .i64 m.size, .slice ad m.doors.length cd, .slice ak m.keys.length ck] 29)) w1) := ((Below.refl _ _).alloc (by simp) _).trans (hb1.mono (by simp))
  have HO1 : Hid (w1.ownsRow (w.heap.size + 1) 3 1 (.slice (some ⟨w.heap.size + 1, 0, none⟩) 1 1) 1 (ints [0])) := by
    have := World.ownsRow_lit (base := w.heap.size + 1) (e := 3) (size := 1) (w.alloc (.cells #[.int .i64 m.size, .slice ad m.doors.length cd, .slice ak m.keys.length ck] 29)) #[.int .i64 0] 1 (by simp) (by unfold maxLen; omega) rfl
    simp at this
    exact own_below this (hb1.mono (by simp))
  obtain ⟨q0, q1, q2, z1⟩ := box3 HB1.out (by omega)
  clear hb1
  have e0 : (fuK m true 0) = ([0], 1) := rfl
  have E0 := Lib.hid e0; clear e0
  go_wp2_with fail
  go_loopw [5, 6, 7] (fun u nd nx wr => ∃ k : Nat, nd = .int .i64 (fuK m true k).2 ∧ nx = .int .i64 (nexN m (fuK m true k).2) ∧ k ≤ (fuK m true k).2 ∧ Below (w.heap.size + 1) (w.alloc (.cells #[.int .i64 m.size, .slice ad m.doors.length cd, .slice ak m.keys.length ck] 29)) wr ∧ Hid (wr.ownsRow (w.heap.size + 1) 3 1 u (fuK m true k).1.length (ints (fuK m true k).1))) (fun _ nd _ _ => 4096 - (intOf nd).toNat)
  case atStart => exact ⟨0, by rw [E0.out]; rfl, by rw [E0.out], Nat.zero_le _, HB1.out, by rw [E0.out]; exact HO1.out⟩
  case round =>
    obtain ⟨wo, rfl⟩ : ∃ wo : World, wo = wr := ⟨_, rfl⟩
    obtain ⟨k, rfl, rfl, hk, hb, HO⟩ := hrel
    have HBo := Lib.hid hb
    have HB := Lib.hid (below_box hb (by omega))
    clear q0 q1 q2
    obtain ⟨q0, q1, q2, z3⟩ := box3 hb (by omega)
    clear hb
    have hs := HL.out k
    have hs1 := HL.out (k + 1)
    have hlen := HLen.out k
    have hI1 := HI.out (k + 1)
    by_cases h0 : nexN m (fuK m true k).2 = 0
    · have HF := Lib.hid (fuK_full OK.out hk h0)
      rw [h0]
      obtain ⟨aM, cM, rfl⟩ := own_slice HO.out
      go_wp2
      go_ret
      exact ⟨_, rfl, by rw [fullL_eq HF.out]; exact (Own.mono (Own.of HO.out) (by omega) (Nat.le_refl _)).row, HB.out⟩
    · have hg := fu_grows OK.out true hs h0
      obtain ⟨i, hi, hi1, hi12, -, -⟩ := pick_next OK.out true hs h0
      have HST : Hid (fuK m true (k + 1) = ((fuK m true k).1 ++ [(i : Int)], setN (fuK m true k).2 (i : Int))) := by
        show fuS m true (fuK m true k) = _
        rw [fuS, if_neg h0, hi]
      have HG : Hid ((fuK m true k).2 < (fuK m true (k + 1)).2) := hg
      rw [pick_last] at hi
      have hx := HN.out (fuK m true k).2
      obtain ⟨aL, haL⟩ : ∃ aL, aL = (fuK m true k).1 := ⟨_, rfl⟩
      obtain ⟨sN, hsN⟩ : ∃ sN, sN = (fuK m true k).2 := ⟨_, rfl⟩
      rw [← haL] at hlen HO HST
      rw [← hsN] at hx h0 hs hk hlen HST HG hi ⊢
      obtain ⟨tN, htN⟩ : ∃ tN, tN = nexN m sN := ⟨_, rfl⟩
      rw [← htN] at hx h0 hi ⊢
      obtain ⟨uN, huN⟩ : ∃ uN, uN = (fuK m true (k + 1)).2 := ⟨_, rfl⟩
      rw [← huN] at hs1 HG hI1
      have HU := Lib.hid huN
      have HU2 : Hid (uN = setN sN (i : Int)) := by rw [huN, HST.out]; exact rfl
      have h0' : ¬ ((tN : Int) = 0) := by omega
      obtain ⟨p, HP, ep, hp⟩ := shl_at i hi12
      have hi0 : (0 : Int) ≤ (i : Int) := by omega
      have hi2 : (i : Int) < 12 := by omega
      have eo : bits .or .i64 (sN : Int) (p : Int) = (uN : Int) := by rw [i64_or sN p (by omega) (by omega), HU2.out]; simp [setN, HP.out]
      have hne : mem tN ≠ [] := fun e => h0 (mem_nil hx e)
      have hlp : 0 < (mem tN).length := List.length_pos_iff.2 hne
      have HSo := Lib.hid (Go.KD.mem_sorted tN)
      have HI1 := Lib.hid hi
      have hml : (mem tN).length ≤ 40 := by rw [mem_eq]; exact memK_len _ _
      clear hsN htN huN haL h0 hg hne hi
      obtain ⟨aM, cM, rfl⟩ := own_slice HO.out
      go_wp2_with fail
      refine (members_c tN (by omega) _).mono ?_
      rintro e w2 ⟨v2, rfl, ho2, hb2⟩
      obtain ⟨a2, c2, rfl, -, hc2⟩ := (Own.of ho2).ic
      have HB2 : Hid (Below (w.heap.size + 1) (w.alloc (.cells #[.int .i64 m.size, .slice ad m.doors.length cd, .slice ak m.keys.length ck] 29)) w2) := HBo.out.trans (hb2.mono (by omega))
      have HO2 := Lib.hid (own_below HO.out hb2)
      clear ho2 hb2
      go_wp2_with fail
      refine (max_c _ _ _ (mem tN) _ _ rfl hc2 (by omega) hlp HSo.out HI1.out).mono ?_
      rintro e w3 ⟨rfl, rfl⟩
      clear q0 q1 q2
      have hz2 : w.heap.size + 1 ≤ w2.heap.size := by have := HB2.out.size; simpa using this
      go_wp2_with (at_builtin; refine wpList_append_own _ rfl _ _ 23 rfl (w.heap.size + 1) 3 i0 (.int .i64 0) 1 8 Try.underlying23 ji jz0 jz1 jz2 rfl (by decide) _ _ _ rfl (HO2.out.alloc _) ⟨w2.heap.size, 0, none⟩ 1 1 [.int .i64 i] rfl rfl ?_ ?_ ?_ ?_ ?_ ?_; (exact cell_one_new _ _ _); (simp [Value.oneCell']); (unfold maxLen; omega); omega; (simp; omega); intro v' w4 hown' hgrow _; have HB4 : Hid (Below (w.heap.size + 1) (w.alloc (.cells #[.int .i64 m.size, .slice ad m.doors.length cd, .slice ak m.keys.length ck] 29)) w4) := (HB2.out.alloc hz2 _).grown hgrow (by simp; omega) (fun g hg => own_block_lo HO2.out hg); have HO4 : Hid (w4.ownsRow (w.heap.size + 1) 3 1 v' (aL ++ [(i : Int)]).length (ints (aL ++ [(i : Int)]))) := (by rw [ints_snoc, List.length_append]; exact hown'); have HBw := Lib.hid (below_box HB4.out (by omega)); obtain ⟨q0, q1, q2, z4⟩ := box3 HB4.out (by omega); clear hown' hgrow)
      refine (nexts_c _ m uN _ (hm.later HBw.out) OK.out hI1).mono ?_
      rintro e w5 ⟨rfl, hb5⟩
      go_wp2_with fail
      go_roundw
      case rel => exact ⟨k + 1, by rw [HU.out], by rw [HU.out], by have := HG.out; have := HU.out; omega, HB4.out.trans (hb5.mono (by omega)), by rw [HST.out]; exact own_below HO4.out hb5⟩
      case measure => have := HG.out; simp [intOf]; omega
end Go.Proofs.Ytbjcabphiddjgaa
