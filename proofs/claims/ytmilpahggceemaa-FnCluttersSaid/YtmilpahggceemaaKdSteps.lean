/- Contracts of has, steps, keysOf, nexts, largest. -/
import Derived.Test.YtmilpahggceemaaKdNode
import Derived.Test.YtmilpahggceemaaKdFill
set_option linter.unusedVariables false
set_option linter.unusedSimpArgs false
namespace Go.KD
open Go.RowKit
theorem box3 {w wX : World} {T : TypeId} {a b c : Value} {B : Nat} (h : Below B (w.alloc (.cells #[a, b, c] T)) wX) (hB : w.heap.size < B) : wX.cell? ⟨w.heap.size, 0, none⟩ = some a ∧ wX.cell? ⟨w.heap.size, 1, none⟩ = some b ∧ wX.cell? ⟨w.heap.size, 2, none⟩ = some c ∧ w.heap.size < wX.heap.size := by
  refine ⟨?_, ?_, ?_, ?_⟩
  · rw [h.cell (p := ⟨w.heap.size, 0, none⟩) hB]; simp [go_sem]
  · rw [h.cell (p := ⟨w.heap.size, 1, none⟩) hB]; simp [go_sem]
  · rw [h.cell (p := ⟨w.heap.size, 2, none⟩) hB]; simp [go_sem]
  · have := h.size; simp only [World.size_alloc] at this; omega
theorem below_box {w wX : World} {o : Obj} {B : Nat} (h : Below B (w.alloc o) wX) (hB : w.heap.size ≤ B) : Below w.heap.size w wX := ((Below.refl _ _).alloc (Nat.le_refl _) o).trans (h.mono hB)
theorem itL_in {m : Mz} {code : Nat} : ∀ k i, (itL m code k).testBit i = true → code.testBit i = true
  | 0, i, h => by
    have h : (code &&& 1).testBit i = true := h
    rw [Nat.testBit_and, Bool.and_eq_true] at h; exact h.1
  | k + 1, i, h => by
    have h : (itL m code k ||| (nexN m (itL m code k) &&& code)).testBit i = true := h
    rw [Nat.testBit_or, Nat.testBit_and, Bool.or_eq_true, Bool.and_eq_true] at h
    rcases h with h | h
    · exact itL_in k i h
    · exact h.2
def InM (m : Mz) (n : Nat) : Prop := ∀ i, n.testBit i = true → (i : Int) < m.size
theorem InM.lt {m : Mz} {n : Nat} (h : InM m n) (ok : MzOk m) : n < 4096 := lt_of_bits (n := 12) fun i hi => by have := h i hi; have := ok.s2; omega
theorem mem_at {n k : Nat} {x : Int} (hk : k < (mem n).length) (h : (mem n)[k]! = x) : ∃ i : Nat, x = i ∧ n.testBit i = true := by
  have : x ∈ mem n := by rw [← h, getElem!_pos _ k hk]; exact List.getElem_mem hk
  obtain ⟨i, _, h2, h3⟩ := (in_mem n x).1 this
  exact ⟨i, h3, h2⟩
end Go.KD
namespace Go.Proofs.Ytmilpahggceemaa
open Go.RowKit Go.KD
attribute [local go_sem] later_cell later_frozen
theorem has_c (s o : Nat) (ho : o < 4096) (w : World) : Calls Try.prog 260 #[.int .i64 s, .int .i64 o] w fun e w' => e = .returned (.bool (subB o s)) ∧ w = w' := by
  have ha : bits .andNot .i64 (o : Int) (s : Int) = ((andn o s : Nat) : Int) := i64_andNot o s (by omega)
  obtain ⟨y, hy⟩ : ∃ y, y = andn o s := ⟨_, rfl⟩
  rw [← hy] at ha
  have HY := Lib.hid hy; clear hy
  go_enter Try.func260, Try.ntmps260
  go_wp2
  go_ret
  exact ⟨ret_bool (by unfold subB; rw [← HY.out, Bool.eq_iff_iff]; simp), rfl⟩
set_option maxHeartbeats 4000000 in
theorem steps_c (v : Value) (m : Mz) (x : Int) (l : Nat) (w : World) (hm : MzAt w v m) (ok : MzOk m) :
    Calls Try.prog 234 #[v, .int .i64 x, .int .i64 l] w fun e w' => e = .returned (.int .i64 (stN m x l)) ∧ Below w.heap.size w w' := by
  have hM := hm
  obtain ⟨⟨ad, cd, ak, ck, rfl, hd, hk'⟩, nd, nk⟩ := hM
  have hng := ok.nd
  have NL := Lib.hid (stK_lt ok x l)
  obtain ⟨s, gs, ps⟩ := m
  dsimp only at *
  have OK := Lib.hid ok; clear ok
  have hs2 : s ≤ 12 := OK.out.s2
  go_enter Try.func234, Try.ntmps234
  go_wp2
  go_loopw [7, 13] (fun n i wr => ∃ k : Nat, k ≤ gs.length ∧ i = .int .i64 k ∧ n = .int .i64 (stK gs x l k) ∧ Below (w.heap.size + 1) (w.alloc (.cells #[.int .i64 s, .slice ad gs.length cd, .slice ak ps.length ck] 75)) wr) (fun _ i _ => gs.length - (intOf i).toNat)
  case atStart => exact ⟨0, Nat.zero_le _, rfl, rfl, Below.refl _ _⟩
  case round =>
    obtain ⟨wo, rfl⟩ : ∃ wo : World, wo = wr := ⟨_, rfl⟩
    obtain ⟨k, hkl, rfl, rfl, hb⟩ := hrel
    obtain ⟨hc, hf, hz⟩ := bcell3 hb
    simp only [World.size_alloc] at hz
    have hz1 : w.heap.size < wo.heap.size := by omega
    have HB : Hid (Below w.heap.size w wo) := below_box hb (by omega)
    have hn := NL.out k hkl
    have HBo := Lib.hid hb
    by_cases hlt : k < gs.length
    · obtain ⟨b, off, x0, y0, z0, rfl, HX, hbs, e0, e1, e2⟩ := (hd.later HB.out).at k hlt
      obtain ⟨f1, f2, f3, f4, f5⟩ := door_facts OK.out hlt HX.out
      dsimp only at f3
      obtain ⟨xn, rfl⟩ := Int.eq_ofNat_of_zero_le f1
      obtain ⟨yn, rfl⟩ := Int.eq_ofNat_of_zero_le (show 0 ≤ y0 by omega)
      obtain ⟨zn, rfl⟩ := Int.eq_ofNat_of_zero_le f4
      obtain ⟨p, HP, ep, hp⟩ := shl_at xn (by omega)
      obtain ⟨q, HQ, eq, hq⟩ := shl_at yn (by omega)
      have hx0 : (xn : Int) < 12 := by omega
      have hy0 : (yn : Int) < 12 := by omega
      obtain ⟨sN, hsN⟩ : ∃ sN, sN = stK gs x l k := ⟨_, rfl⟩
      rw [← hsN] at hn ⊢
      have HN : Hid (stK gs x l (k + 1) = joinD x l sN ((xn : Int), (yn : Int), (zn : Int))) := by show _ = _; rw [st_step hlt, HX.out, hsN]
      clear hsN
      obtain ⟨s1, hs1⟩ : ∃ s1, s1 = sN ||| q := ⟨_, rfl⟩
      have hs1l : s1 < 4096 := by rw [hs1]; exact Nat.or_lt_two_pow (n := 12) hn hq
      have ea : bits .or .i64 (sN : Int) (q : Int) = (s1 : Int) := by rw [hs1]; exact i64_or sN q (by omega) (by omega)
      have eb : bits .or .i64 (sN : Int) (p : Int) = ((sN ||| p : Nat) : Int) := i64_or sN p (by omega) (by omega)
      have ec : bits .or .i64 (s1 : Int) (p : Int) = ((s1 ||| p : Nat) : Int) := i64_or s1 p (by omega) (by omega)
      have HS1 := Lib.hid hs1; clear hs1
      cases po : subB zn l
      · have HF : Hid (stK gs x l (k + 1) = sN) := by show _ = _; rw [HN.out]; simp [joinD, po]
        go_wp2_with (go_at_call 260; refine (has_c _ _ (by omega) _).mono ?_; rintro e w2 ⟨rfl, rfl⟩; rw [po])
        go_roundw
        case rel => exact ⟨k + 1, by omega, by go_num, by rw [HF.out], HBo.out.alloc (by omega) _⟩
        case measure => simp [intOf]; omega
      · cases p1 : ((xn : Int) == x) <;> cases p2 : ((yn : Int) == x)
        all_goals
          have HF := HN
          go_wp2_with (go_at_call 260; refine (has_c _ _ (by omega) _).mono ?_; rintro e w2 ⟨rfl, rfl⟩; rw [po])
          go_roundw
          case rel =>
            refine ⟨k + 1, by omega, by go_num, ?_, HBo.out.alloc (by omega) _⟩
            rw [HF.out]
            simp only [beq_iff_eq, beq_eq_false_iff_ne] at p1 p2
            have key : joinD x l sN ((xn : Int), (yn : Int), (zn : Int)) = (if (yn : Int) = x then setN (if (xn : Int) = x then setN sN yn else sN) xn else (if (xn : Int) = x then setN sN yn else sN)) := by simp only [joinD, Int.toNat_natCast, po, if_true]
            rw [key]
            first | rw [if_pos p2, if_pos p1] | rw [if_pos p2, if_neg p1] | rw [if_neg p2, if_pos p1] | rw [if_neg p2, if_neg p1]
            all_goals simp [setN, HS1.out, HP.out, HQ.out]
          case measure => simp [intOf]; omega
    · obtain rfl : k = gs.length := by omega
      go_wp2
      go_ret
      exact ⟨rfl, HB.out⟩
set_option maxHeartbeats 2000000 in
theorem keysOf_c (v : Value) (m : Mz) (n : Nat) (w : World) (hm : MzAt w v m) (ok : MzOk m) (hin : InM m n) :
    Calls Try.prog 302 #[v, .int .i64 n] w fun e w' => e = .returned (.int .i64 (keyN m n)) ∧ Below w.heap.size w w' := by
  have hM := hm
  obtain ⟨⟨ad, cd, ak, ck, rfl, hd, hk'⟩, nd, nk⟩ := hM
  have hnk : (m.keys.length : Int) = m.size := ok.nk
  have hn := hin.lt ok
  have OK := Lib.hid ok; clear ok
  go_enter Try.func302, Try.ntmps302
  go_wp2_with fail
  refine (members_c n (by omega) _).mono ?_
  rintro e w1 ⟨v1, rfl, ho1, hb1⟩
  obtain ⟨a1, c1, rfl, -, hc1⟩ := (Own.of ho1).ic
  have HB1 : Hid (Below w.heap.size w w1) := below_box hb1 (by simp)
  obtain ⟨q0, q1, q2, z1⟩ := box3 hb1 (by simp)
  have hkw := hk'.later HB1.out
  have hml : (mem n).length ≤ 40 := by rw [mem_eq]; exact memK_len _ _
  obtain ⟨L, hL⟩ : ∃ L, L = mem n := ⟨_, rfl⟩
  have hLm : Hid (∀ k x, k < L.length → L[k]! = x → ∃ i : Nat, x = i ∧ n.testBit i = true) := by rw [hL]; exact fun k x => mem_at
  have HR : Hid (keyN m n = keysL m L) := by rw [hL]; rfl
  rw [← hL] at hc1 hml ⊢
  clear hb1 ho1 hL
  go_wp2
  go_loop [5, 11] (fun s i => ∃ k : Nat, k ≤ L.length ∧ i = .int .i64 k ∧ s = .int .i64 (keysL m (L.take k))) (fun _ i => L.length - (intOf i).toNat)
  case atStart => exact ⟨0, Nat.zero_le _, rfl, rfl⟩
  case round =>
    obtain ⟨k, hk, rfl, rfl⟩ := hrel
    have hs := keysL_lt OK.out (L.take k)
    by_cases hlt : k < L.length
    · obtain ⟨b, off, x, rfl, HX, hbs, e0⟩ := hc1.at k hlt
      obtain ⟨i, rfl, hi⟩ := hLm.out k x hlt HX.out
      have hik := hin i hi
      obtain ⟨b2, off2, y, rfl, HY, hbs2, e1⟩ := hkw.at i (by omega)
      have hy := key_facts OK.out (k := i) (by omega)
      rw [HY.out] at hy
      obtain ⟨yn, rfl⟩ := Int.eq_ofNat_of_zero_le hy.1
      have HS : Hid (keysL m (L.take (k + 1)) = keysL m (L.take k) ||| yn) := by
        show _ = _
        rw [take_snoc hlt, keysL_snoc, HX.out]
        simp only [Int.toNat_natCast]
        rw [HY.out]; rfl
      obtain ⟨sN, hsN⟩ : ∃ sN, sN = keysL m (L.take k) := ⟨_, rfl⟩
      rw [← hsN] at hs HS ⊢
      clear hsN
      have ea : bits .or .i64 (sN : Int) (yn : Int) = ((sN ||| yn : Nat) : Int) := i64_or sN yn (by omega) (by omega)
      have hil : (i : Int) < (m.keys.length : Int) := by omega
      clear hi
      go_wp2
      go_round
      case rel => exact ⟨k + 1, by omega, by go_num, by rw [HS.out]⟩
      case measure => simp [intOf]; omega
    · obtain rfl : k = L.length := by omega
      go_wp2
      go_ret
      exact ⟨ret_int (by first | rw [HR.out] | rw [HR.out, List.take_length]), HB1.out⟩
set_option maxHeartbeats 2000000 in
theorem nexts_c (v : Value) (m : Mz) (n : Nat) (w : World) (hm : MzAt w v m) (ok : MzOk m) (hin : InM m n) :
    Calls Try.prog 239 #[v, .int .i64 n] w fun e w' => e = .returned (.int .i64 (nexN m n)) ∧ Below w.heap.size w w' := by
  have hM := hm
  obtain ⟨⟨ad, cd, ak, ck, rfl, hd, hk'⟩, nd, nk⟩ := hM
  have hn := hin.lt ok
  have HIN := Lib.hid hin
  have OK := Lib.hid ok; clear ok
  go_enter Try.func239, Try.ntmps239
  go_wp2_with fail
  refine (keysOf_c _ m n _ (hm.later (by (repeat (first | exact Below.refl _ _ | apply Below.drew | apply below_drewN | (refine Below.setCell ?_ (by first | omega | (simp; done) | (simp; omega) | (dsimp only; omega)) _) | (refine Below.alloc ?_ (by first | omega | (simp; done) | (simp; omega) | (dsimp only; omega)) _))))) OK.out HIN.out).mono ?_
  rintro e w1 ⟨rfl, hb1⟩
  have HX1 := Lib.hid hb1
  obtain ⟨q0, q1, q2, z1⟩ := box3 hb1 (by simp)
  clear hb1
  go_wp2_with fail
  refine (members_c n (by omega) _).mono ?_
  rintro e w2 ⟨v2, rfl, ho2, hb2⟩
  obtain ⟨a2, c2, rfl, -, hc2⟩ := (Own.of ho2).ic
  have HX2 := Lib.hid (below_then HX1.out hb2)
  clear q0 q1 q2
  obtain ⟨q0, q1, q2, z2⟩ := box3 HX2.out (by simp)
  have HB2 : Hid (Below w.heap.size w w2) := below_box HX2.out (by simp)
  have hml : (mem n).length ≤ 40 := by rw [mem_eq]; exact memK_len _ _
  obtain ⟨L, hL⟩ : ∃ L, L = mem n := ⟨_, rfl⟩
  obtain ⟨S, hS⟩ : ∃ S, S = keyN m n := ⟨_, rfl⟩
  have HR : Hid (nexN m n = andn (unionL m S L) n) := by rw [hL, hS]; rfl
  rw [← hL] at hc2 hml ⊢
  rw [← hS]
  have HC2 := Lib.hid hc2
  clear hb2 ho2 hL hS hc2
  go_wp2
  go_loopw [6, 15] (fun o i wr => ∃ k : Nat, k ≤ L.length ∧ i = .int .i64 k ∧ o = .int .i64 (unionL m S (L.take k)) ∧ Below w2.heap.size w2 wr) (fun _ i _ => L.length - (intOf i).toNat)
  case atStart => exact ⟨0, Nat.zero_le _, rfl, rfl, Below.refl _ _⟩
  case round =>
    obtain ⟨wo, rfl⟩ : ∃ wo : World, wo = wr := ⟨_, rfl⟩
    obtain ⟨k, hk, rfl, rfl, hb⟩ := hrel
    have HBo := Lib.hid hb
    have HB := Lib.hid (below_then HB2.out hb)
    clear q0 q1 q2
    obtain ⟨q0, q1, q2, z3⟩ := box3 (below_then HX2.out hb) (by simp)
    have hs := unionL_lt OK.out S (L.take k)
    by_cases hlt : k < L.length
    · obtain ⟨b, off, x, rfl, HX, hbs, e0⟩ := (HC2.out.later hb).at k hlt
      have HS : Hid (unionL m S (L.take (k + 1)) = unionL m S (L.take k) ||| stN m x S) := by
        show _ = _
        rw [take_snoc hlt, unionL_snoc, HX.out]
      have hst := stN_lt OK.out x S
      obtain ⟨sN, hsN⟩ : ∃ sN, sN = unionL m S (L.take k) := ⟨_, rfl⟩
      obtain ⟨tN, htN⟩ : ∃ tN, tN = stN m x S := ⟨_, rfl⟩
      rw [← hsN] at hs HS ⊢
      rw [← htN] at hst HS
      have HT := Lib.hid htN.symm
      clear hsN htN
      have ea : bits .or .i64 (sN : Int) (tN : Int) = ((sN ||| tN : Nat) : Int) := i64_or sN tN (by omega) (by omega)
      clear hb
      go_wp2_with fail
      refine (steps_c _ m x S _ (hm.later HB.out) OK.out).mono ?_
      rintro e w3 ⟨rfl, hb3⟩
      rw [HT.out]
      go_wp2_with fail
      go_roundw
      case rel => exact ⟨k + 1, by omega, by go_num, by rw [HS.out], below_then HBo.out hb3⟩
      case measure => simp [intOf]; omega
    · obtain rfl : k = L.length := by omega
      rw [List.take_length] at hs ⊢
      obtain ⟨sN, hsN⟩ : ∃ sN, sN = unionL m S L := ⟨_, rfl⟩
      rw [← hsN] at hs HR ⊢
      clear hsN hb
      have ea : bits .andNot .i64 (sN : Int) (n : Int) = ((andn sN n : Nat) : Int) := i64_andNot sN n (by omega)
      go_wp2
      go_ret
      exact ⟨ret_int (by rw [HR.out]), HB.out⟩
set_option maxHeartbeats 2000000 in
theorem largest_c (v : Value) (m : Mz) (n : Nat) (w : World) (hm : MzAt w v m) (ok : MzOk m) (hin : InM m n) :
    Calls Try.prog 247 #[v, .int .i64 n] w fun e w' => e = .returned (.int .i64 (largN m n)) ∧ Below w.heap.size w w' := by
  have hM := hm
  obtain ⟨⟨ad, cd, ak, ck, rfl, hd, hk'⟩, nd, nk⟩ := hM
  have hn := hin.lt ok
  have HIN := Lib.hid hin
  have HI : Hid (∀ k, InM m (itL m n k)) := fun k i hi => hin i (itL_in k i hi)
  have HL := Lib.hid (itL_lt ok n)
  have HN := Lib.hid (nexN_lt ok)
  have OK := Lib.hid ok; clear ok
  have e1 : bits .and .i64 (n : Int) 1 = ((n &&& 1 : Nat) : Int) := i64_and n 1 (by omega) (by omega)
  have e2 : ∀ x : Nat, x < 4096 → bits .and .i64 (x : Int) (n : Int) = ((x &&& n : Nat) : Int) := fun x hx => i64_and x n (by omega) (by omega)
  obtain ⟨s0, hs0⟩ : ∃ s0, s0 = n &&& 1 := ⟨_, rfl⟩
  rw [← hs0] at e1
  have H0 : Hid (s0 = itL m n 0) := hs0
  clear hs0
  go_enter Try.func247, Try.ntmps247
  go_wp2_with fail
  refine (nexts_c _ m s0 _ (hm.later (by (repeat (first | exact Below.refl _ _ | apply Below.drew | apply below_drewN | (refine Below.setCell ?_ (by first | omega | (simp; done) | (simp; omega) | (dsimp only; omega)) _) | (refine Below.alloc ?_ (by first | omega | (simp; done) | (simp; omega) | (dsimp only; omega)) _))))) OK.out (by rw [H0.out]; exact HI.out 0)).mono ?_
  rintro e w1 ⟨rfl, hb1⟩
  have HX1 := Lib.hid hb1
  obtain ⟨q0, q1, q2, z1⟩ := box3 hb1 (by simp)
  have e3 := e2 _ (HN.out s0)
  have HB1 : Hid (Below w.heap.size w w1) := below_box hb1 (by simp)
  obtain ⟨x1, hx1⟩ : ∃ x1, x1 = nexN m s0 := ⟨_, rfl⟩
  rw [← hx1] at e3 ⊢
  have HX := Lib.hid hx1
  clear hb1 hx1
  have E2 := Lib.hid e2
  clear e2
  go_wp2
  go_loopw [5, 6] (fun o x wr => ∃ k : Nat, o = .int .i64 (itL m n k) ∧ x = .int .i64 ((nexN m (itL m n k) &&& n : Nat)) ∧ k ≤ itL m n k ∧ Below w1.heap.size w1 wr) (fun o _ _ => 4096 - (intOf o).toNat)
  case atStart => exact ⟨0, by rw [H0.out], by rw [HX.out, H0.out], Nat.zero_le _, Below.refl _ _⟩
  case round =>
    obtain ⟨wo, rfl⟩ : ∃ wo : World, wo = wr := ⟨_, rfl⟩
    obtain ⟨k, rfl, rfl, hk, hb⟩ := hrel
    have HBo := Lib.hid hb
    have HB := Lib.hid (below_then HB1.out hb)
    clear q0 q1 q2
    obtain ⟨q0, q1, q2, z3⟩ := box3 (below_then HX1.out hb) (by simp)
    clear hb e3
    have HS : Hid (itL m n (k + 1) = itL m n k ||| (nexN m (itL m n k) &&& n)) := rfl
    have hs := HL.out k
    have hs1 := HL.out (k + 1)
    have hx : (nexN m (itL m n k) &&& n) < 4096 := Nat.lt_of_le_of_lt Nat.and_le_left (HN.out _)
    by_cases h0 : nexN m (itL m n k) &&& n = 0
    · have HF := Lib.hid (largN_end OK.out hk h0)
      rw [h0]
      go_wp2
      go_ret
      exact ⟨ret_int (by rw [HF.out]), HB.out⟩
    · have hg := lgN_grows h0
      have HG : Hid (itL m n k < itL m n (k + 1)) := hg
      obtain ⟨sN, hsN⟩ : ∃ sN, sN = itL m n k := ⟨_, rfl⟩
      rw [← hsN] at hx h0 hs hk HS HG ⊢
      obtain ⟨tN, htN⟩ : ∃ tN, tN = nexN m sN &&& n := ⟨_, rfl⟩
      rw [← htN] at hx h0 HS ⊢
      obtain ⟨uN, huN⟩ : ∃ uN, uN = itL m n (k + 1) := ⟨_, rfl⟩
      rw [← huN] at hs1 HS HG
      have HU := Lib.hid huN
      have e4 : bits .or .i64 (sN : Int) (tN : Int) = (uN : Int) := by rw [HS.out]; exact i64_or sN tN (by omega) (by omega)
      have h0' : ¬ ((tN : Int) = 0) := by omega
      have e5 := E2.out _ (HN.out uN)
      clear hsN htN huN hg h0
      go_wp2_with fail
      refine (nexts_c _ m uN _ (hm.later HB.out) OK.out (by rw [HU.out]; exact HI.out (k + 1))).mono ?_
      rintro e w2 ⟨rfl, hb2⟩
      obtain ⟨yN, hyN⟩ : ∃ yN, yN = nexN m uN := ⟨_, rfl⟩
      rw [← hyN] at e5 ⊢
      have HY := Lib.hid hyN
      clear hyN
      go_wp2_with fail
      go_roundw
      case rel => exact ⟨k + 1, by rw [HU.out], by rw [HY.out, HU.out], by have := HG.out; have := HU.out; omega, below_then HBo.out hb2⟩
      case measure => have := HG.out; simp [intOf]; omega
end Go.Proofs.Ytmilpahggceemaa
