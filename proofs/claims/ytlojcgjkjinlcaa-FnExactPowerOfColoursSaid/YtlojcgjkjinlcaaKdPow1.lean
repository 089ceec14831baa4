/- Contract of the program's PowerOfColours. -/
import Derived.Test.YtlojcgjkjinlcaaKdPow0
import Derived.Test.YtlojcgjkjinlcaaKdLeft2
import Derived.Deep.DeepCutAuto
import Derived.Deep.RegionHeld3
set_option linter.unusedVariables false
set_option linter.unusedSimpArgs false
namespace Go.KD
open Go.RowKit
theorem shl_at30P (y : Nat) (hy : y < 30) : ∃ p : Nat, Hid (p = 2 ^ y) ∧ IntKind.i64.wrap (2 ^ y) = (p : Int) ∧ p < 1073741824 := by
  refine ⟨2 ^ y, rfl, ?_, Nat.pow_lt_pow_right (n := 30) (by omega) hy⟩
  have h : 2 ^ y < 2 ^ 30 := Nat.pow_lt_pow_right (by omega) hy
  have e : ((2 ^ y : Nat) : Int) = 2 ^ y := by simp
  rw [← e]
  generalize 2 ^ y = q at h
  rw [IntKind.wrap_i64]; omega
theorem ic_grown2P {w w' : World} {a : Option Addr} {n c : Nat} {l : List Int} {row : Option Nat} (h : IC w a l) (hg : w.grownBy w' row) (hne : ∀ b, (Value.slice a n c).ownBlock = some b → 0 < l.length → row ≠ some b) : IC w' a l := by
  intro k hk
  obtain ⟨b, off, hb, hbs, hc⟩ := h k hk
  subst hb
  refine ⟨b, off, rfl, Nat.lt_of_lt_of_le hbs hg.size, ?_⟩
  rw [← hc]
  exact World.cell?_of_block (hg.block b hbs (fun e => hne b rfl (by omega) e.symm))
def powP (L : List Int) (c : Nat) (x : Int) : Bool := x.toNat.testBit c && !hasI L ((andn x.toNat (2 ^ c) : Nat) : Int)
def powC (L : List Int) (c i : Nat) : Nat := ((L.take i).filter (powP L c)).length
theorem powC_yes {L : List Int} {c i : Nat} (hi : i < L.length) (h : powP L c L[i]! = true) : powC L c (i + 1) = powC L c i + 1 := by
  unfold powC
  have e : List.filter (powP L c) [L[i]!] = [L[i]!] := by rw [List.filter_cons_of_pos h]; rfl
  rw [take_snoc hi, List.filter_append, List.length_append, e]; rfl
theorem powC_no {L : List Int} {c i : Nat} (hi : i < L.length) (h : powP L c L[i]! = false) : powC L c (i + 1) = powC L c i := by
  unfold powC
  have e : List.filter (powP L c) [L[i]!] = [] := by rw [List.filter_cons_of_neg (by rw [h]; simp)]; rfl
  rw [take_snoc hi, List.filter_append, List.length_append, e]; rfl
theorem powC_le (L : List Int) (c i : Nat) : powC L c i ≤ i := Nat.le_trans (List.length_filter_le _ _) (by simp; omega)
theorem powC_all (m : Mz) : row6 (fun c => ((powC (winL m 64) c (winL m 64).length : Nat) : Int)) = powL m := by
  unfold row6 powL
  refine List.map_congr_left fun c hc => ?_
  have hc6 := List.mem_range.1 hc
  unfold powC
  rw [List.take_length]
  rw [show (winL m 64).filter (powP (winL m 64) c) = (winL m 64).filter (fun x => x.toNat.testBit c && !hasI (winL m 64) ((andn x.toNat (2 ^ c) : Nat) : Int)) from rfl, pow_winL, pow_eq _ c hc6]
end Go.KD
namespace Go.Proofs.Ytlojcgjkjinlcaa
open Go.RowKit Go.KD
attribute [local go_sem] later_cell later_frozen
set_option maxRecDepth 100000 in
set_option maxHeartbeats 8000000 in
theorem implPowerOfColours_c (v : Value) (m : Mz) (w : World) (R : List Int) (b : Bool) (hp : pPowerOfColours m = (R, b)) (hm : MzAt w v m) : Calls Try.prog 47 #[v] w fun e w' => ∃ u, e = .returned (.tuple #[u, .bool b]) ∧ w'.ownsRow w.heap.size 3 1 u R.length (ints R) ∧ Below w.heap.size w w' := by
  have hM := hm
  obtain ⟨⟨ad, cd, ak, ck, rfl, hd, hk'⟩, nd, nk⟩ := hM
  cases b1 : mazeB m
  · simp only [pPowerOfColours, b1] at hp
    cases hp
    go_enter Try.func47, Try.ntmps47
    go_wp2_with (go_at_call 89; refine (isMaze_c _ m _ (hm.later (by (repeat (first | exact Below.refl _ _ | apply Below.drew | apply below_drewN | (refine Below.setCell ?_ (by first | omega | (simp; done) | (simp; omega) | (dsimp only; omega)) _) | (refine Below.alloc ?_ (by first | omega | (simp; done) | (simp; omega) | (dsimp only; omega)) _)))))).mono ?_; rintro e w1 ⟨rfl, hb1⟩; have HB1 : Hid (Below w.heap.size w w1) := below_then (by (repeat (first | exact Below.refl _ _ | apply Below.drew | apply below_drewN | (refine Below.setCell ?_ (by first | omega | (simp; done) | (simp; omega) | (dsimp only; omega)) _) | (refine Below.alloc ?_ (by first | omega | (simp; done) | (simp; omega) | (dsimp only; omega)) _)))) hb1; simp only [b1])
    go_ret2
    exact ⟨_, rfl, ⟨rfl, .inl ⟨rfl, rfl⟩⟩, HB1.out⟩
  · simp only [pPowerOfColours, b1, if_true, Prod.mk.injEq] at hp
    obtain ⟨rfl, rfl⟩ := hp
    have OK := Lib.hid (mazeB_true.1 b1)
    obtain ⟨L, hL⟩ : ∃ L, L = winL m 64 := ⟨_, rfl⟩
    have HR : Hid (powL m = row6 (fun c => ((powC L c L.length : Nat) : Int))) := by show _ = _; rw [hL]; exact (powC_all m).symm
    have hll : L.length ≤ 64 := by rw [hL]; exact winL_len m 64
    have HX : Hid (∀ k x, k < L.length → L[k]! = x → ∃ i : Nat, i < 64 ∧ x = i) := fun k x h1 h2 => by rw [hL] at h1 h2; obtain ⟨i, h3, _, h4⟩ := winL_at h1 h2; exact ⟨i, h3, h4⟩
    have HL := Lib.hid hL
    clear hL
    have hmk : ∀ W : World, (Instr.makeSlice 23 (.int .i64 6) (.int .i64 6)).run Try.prog W = .ok (.slice (some ⟨W.heap.size, 0, none⟩) 6 6) (W.alloc (.cells (madeCells #[.int .i64 0] 6) 3)) := fun W => run_make_row' 23 3 (.int .i64 0) 8 Try.underlying23 infoI rfl .i64 .i64 6 (by omega) (by omega) W
    go_enter Try.func47, Try.ntmps47
    go_upto_region 3 with (go_at_call 89; refine (isMaze_c _ m _ (hm.later (by (repeat (first | exact Below.refl _ _ | apply Below.drew | apply below_drewN | (refine Below.setCell ?_ (by first | omega | (simp; done) | (simp; omega) | (dsimp only; omega)) _) | (refine Below.alloc ?_ (by first | omega | (simp; done) | (simp; omega) | (dsimp only; omega)) _)))))).mono ?_; rintro e w1 ⟨rfl, hb1⟩; obtain ⟨hc1, hf1, hz1⟩ := bcell3 hb1; have HB1 : Hid (Below w.heap.size w w1) := below_then (by (repeat (first | exact Below.refl _ _ | apply Below.drew | apply below_drewN | (refine Below.setCell ?_ (by first | omega | (simp; done) | (simp; omega) | (dsimp only; omega)) _) | (refine Below.alloc ?_ (by first | omega | (simp; done) | (simp; omega) | (dsimp only; omega)) _)))) hb1; have HC1 : Hid (w1.cell? ⟨w.heap.size, 0, none⟩ = some (.int .i64 m.size) ∧ w1.cell? ⟨w.heap.size, 1, none⟩ = some (.slice ad m.doors.length cd) ∧ w1.cell? ⟨w.heap.size, 2, none⟩ = some (.slice ak m.keys.length ck) ∧ w.heap.size < w1.heap.size) := (by refine ⟨?_, ?_, ?_, ?_⟩ <;> first | (simp [*, go_sem]; done) | (simp at hz1; omega)); clear hc1 hf1 hb1; simp only [b1])
    obtain ⟨q0, q1, q2, hz⟩ := HC1.out
    have HS2 : Hid (∀ W, Below w1.heap.size w1 W → W.cell? ⟨w.heap.size, 0, none⟩ = some (.int .i64 m.size) ∧ W.cell? ⟨w.heap.size, 1, none⟩ = some (.slice ad m.doors.length cd) ∧ W.cell? ⟨w.heap.size, 2, none⟩ = some (.slice ak m.keys.length ck)) := fun W hW => ⟨(hW.cell (p := ⟨w.heap.size, 0, none⟩) hz).trans q0, (hW.cell (p := ⟨w.heap.size, 1, none⟩) hz).trans q1, (hW.cell (p := ⟨w.heap.size, 2, none⟩) hz).trans q2⟩
    clear q0 q1 q2
    go_cut [4, 5] (fun s4 s5 wx => ∃ (go : Nat) (a2 : Option Addr) (c2 : Nat), s4 = .slice (some ⟨go, 0, none⟩) 6 6 ∧ s5 = .slice a2 L.length c2 ∧ Hid (wx.ownsRow w1.heap.size 3 1 (.slice (some ⟨go, 0, none⟩) 6 6) 6 (ints (List.replicate 6 0)) ∧ IC wx a2 L ∧ Below w1.heap.size w1 wx ∧ (∀ b, (Value.slice a2 L.length c2).ownBlock = some b → b ≠ go)))
    case first =>
      go_region_held3 (fun W => W.cell? ⟨w.heap.size, 0, none⟩ = some (.int .i64 m.size) ∧ W.cell? ⟨w.heap.size, 1, none⟩ = some (.slice ad m.doors.length cd) ∧ W.cell? ⟨w.heap.size, 2, none⟩ = some (.slice ak m.keys.length ck))
        (first | exact HS2.out _ (HB2.out.alloc HB2.out.size _) | exact HS2.out _ (by repeat (first | exact Below.refl _ _ | exact HB2.out | apply Below.drew | apply below_drewN | (refine Below.setCell ?_ (by first | omega | (simp; done) | (simp; omega) | (dsimp only; omega)) _) | (refine Below.alloc ?_ (by first | omega | (simp; done) | (simp; omega) | (dsimp only; omega)) _))))
        ((go_at_call 90; refine (winning_c _ m _ ((hm.later HB1.out).later (by repeat (first | exact Below.refl _ _ | apply Below.drew | apply below_drewN | (refine Below.setCell ?_ (by first | omega | (simp; done) | (simp; omega) | (dsimp only; omega)) _) | (refine Below.alloc ?_ (by first | omega | (simp; done) | (simp; omega) | (dsimp only; omega)) _)))) OK.out).mono ?_; rintro e w2 ⟨u2, rfl, ho2, hb2⟩; rw [← HL.out] at ho2; have HB2 : Hid (Below w1.heap.size w1 w2) := Below.trans (by repeat (first | exact Below.refl _ _ | apply Below.drew | apply below_drewN | (refine Below.setCell ?_ (by first | omega | (simp; done) | (simp; omega) | (dsimp only; omega)) _) | (refine Below.alloc ?_ (by first | omega | (simp; done) | (simp; omega) | (dsimp only; omega)) _))) (hb2.mono (by first | exact Nat.le_refl _ | (simp; done) | (simp; omega))); have HO2 := Lib.hid ho2; have HB22 := Lib.hid hb2; clear ho2 hb2))
      all_goals
        obtain ⟨a2, c2, rfl⟩ := own_slice HO2.out
        have hz2 := HB2.out.size
        have hlo := fun b (hb : (Value.slice a2 L.length c2).ownBlock = some b) => own_block_lo HO2.out hb
        have hto := (Own.of HO2.out).top
        go_wp2_with fail
        go_meet
        case rel =>
          first
            | exact ⟨w2.heap.size, a2, c2, rfl, rfl, (⟨own_madeL _ rfl hz2 (by unfold maxLen; omega), (ic_of (Own.of HO2.out)).later ((Below.refl _ _).alloc (Nat.le_refl _) _), HB2.out.alloc hz2 _, fun b hb => by have := hto b hb; omega⟩ : _ ∧ _ ∧ _ ∧ _)⟩
            | exact ⟨w1.heap.size, a2, c2, rfl, rfl, (⟨own_below (own_madeL (n := 6) (base := w1.heap.size) (e := 3) w1.drew rfl (Nat.le_refl _) (by unfold maxLen; omega)) HB22.out, ic_of (Own.of HO2.out), HB2.out, fun b hb => by have := hlo b hb; simp at this; omega⟩ : _ ∧ _ ∧ _ ∧ _)⟩
    case rest =>
      obtain ⟨go, a2, c2, rfl, rfl, HC⟩ := hcut
      have HO0 := Lib.hid HC.out.1
      have HI0 := Lib.hid HC.out.2.1
      have HB0 := Lib.hid HC.out.2.2.1
      have HNE := Lib.hid HC.out.2.2.2
      have hgo := own_block_lo HO0.out (g := go) rfl
      clear HC
      go_wp2
      go_loopw [17] (fun c wr => ∃ k : Nat, k ≤ 6 ∧ c = .int .i64 k ∧ Hid (Below w1.heap.size w1 wr) ∧ Hid (IC wr a2 L) ∧ Hid (wr.ownsRow w1.heap.size 3 1 (.slice (some ⟨go, 0, none⟩) 6 6) 6 (ints (rowP (fun c => ((powC L c L.length : Nat) : Int)) k 0)))) (fun c _ => 6 - (intOf c).toNat)
      case atStart => exact ⟨0, by omega, rfl, HB0, HI0, by rw [rowP_zero]; exact HO0.out⟩
      case round =>
        clear HB0 HI0 HO0
        obtain ⟨wo, rfl⟩ : ∃ wo : World, wo = wr := ⟨_, rfl⟩
        obtain ⟨c, hc, rfl, HB, HI, HO⟩ := hrel
        by_cases hc6 : c < 6
        · have hc6I : (c : Int) < 6 := by omega
          have hc64 : (c : Int) < 64 := by omega
          have HO' : Hid (wo.ownsRow w1.heap.size 3 1 (.slice (some ⟨go, 0, none⟩) 6 6) 6 (ints (rowP (fun c => ((powC L c L.length : Nat) : Int)) c ((powC L c 0 : Nat) : Int)))) := by
            have e : powC L c 0 = 0 := by simp [powC]
            rw [e]; exact HO.out
          clear HO
          go_wp2
          go_loopw [22] (fun n wr => ∃ i : Nat, i ≤ L.length ∧ n = .int .i64 i ∧ Hid (Below w1.heap.size w1 wr) ∧ Hid (IC wr a2 L) ∧ Hid (wr.ownsRow w1.heap.size 3 1 (.slice (some ⟨go, 0, none⟩) 6 6) 6 (ints (rowP (fun c => ((powC L c L.length : Nat) : Int)) c ((powC L c i : Nat) : Int))))) (fun n _ => L.length - (intOf n).toNat)
          case atStart => exact ⟨0, Nat.zero_le _, rfl, HB, HI, HO'⟩
          case round =>
            clear HB HI HO'
            obtain ⟨wi, rfl⟩ : ∃ wi : World, wi = wr := ⟨_, rfl⟩
            obtain ⟨i, hi, rfl, HB, HI, HO⟩ := hrel
            by_cases hil : i < L.length
            · have hiI : (i : Int) < (L.length : Int) := by omega
              obtain ⟨bx, off, x, rfl, HXX, hbs, e0⟩ := HI.out.at i hil
              obtain ⟨xn, hx64, rfl⟩ := HX.out i x hil HXX.out
              obtain ⟨y, HY, ey⟩ := shr_at xn c
              have hy : y < 1099511627776 := by
                have := HY.out; rw [Nat.shiftRight_eq_div_pow] at this; have := Nat.div_le_self xn (2 ^ c); omega
              have eb := and1 hy
              have hb1 := bit_shr xn c
              rw [← HY.out] at hb1
              rw [hb1] at eb
              obtain ⟨p, HPp, ep, hp30⟩ := shl_at30P c (by omega)
              have ea : bits .andNot .i64 (xn : Int) (p : Int) = ((andn xn p : Nat) : Int) := i64_andNot xn p (by omega)
              have hpl := powC_le L c i
              obtain ⟨pv, hpv⟩ : ∃ pv, pv = powC L c i := ⟨_, rfl⟩
              have HPV := Lib.hid hpv
              rw [← hpv] at hpl HO
              clear hpv hy hb1
              have hq : Hid (powP L c L[i]! = (xn.testBit c && !hasI L ((andn xn p : Nat) : Int))) := by show _ = _; rw [HXX.out, HPp.out]; simp [powP]
              cases pb : xn.testBit c
              case false =>
                simp only [pb, Bool.false_eq_true, if_false] at eb
                have HN : Hid (powC L c (i + 1) = pv) := by show _ = _; rw [powC_no hil (by rw [hq.out, pb]; rfl), HPV.out]
                clear pb
                go_wp2
                go_roundw
                case rel => exact ⟨i + 1, by omega, by go_num, HB, HI, by rw [HN.out]; exact HO.out⟩
                case measure => simp [intOf]; omega
              case true =>
                simp only [pb, if_true] at eb
                cases hh : hasI L ((andn xn p : Nat) : Int)
                case true =>
                  have HN : Hid (powC L c (i + 1) = pv) := by show _ = _; rw [powC_no hil (by rw [hq.out, pb, hh]; rfl), HPV.out]
                  clear pb
                  go_wp2_with (go_at_call 91; refine (contains_c _ _ _ L _ _ rfl HI.out (by omega)).mono ?_; rintro e w3 ⟨rfl, rfl⟩; simp only [hh])
                  go_roundw
                  case rel => exact ⟨i + 1, by omega, by go_num, HB, HI, by rw [HN.out]; exact HO.out⟩
                  case measure => simp [intOf]; omega
                case false =>
                  have HN : Hid (powC L c (i + 1) = pv + 1) := by show _ = _; rw [powC_yes hil (by rw [hq.out, pb, hh]; rfl), HPV.out]
                  have e5 := own_intZ HO.out c hc6 (by simp)
                  rw [rowP_at _ _ hc6] at e5
                  have f5 : wi.frozen? ⟨go, c, none⟩ = false := HO.out.frozenAt _
                  have hw : IntKind.i64.wrap ((pv : Int) + 1) = ((pv + 1 : Nat) : Int) := by rw [IntKind.wrap_i64]; omega
                  have st := own_store1 HO.out c ((pv + 1 : Nat) : Int)
                  rw [rowP_set] at st
                  have HST := Lib.hid st
                  clear pb st
                  go_wp2_with (go_at_call 91; refine (contains_c _ _ _ L _ _ rfl HI.out (by omega)).mono ?_; rintro e w3 ⟨rfl, rfl⟩; simp only [hh])
                  go_roundw
                  case rel => exact ⟨i + 1, by omega, by go_num, Below.setCell HB.out (p := ⟨go, c, none⟩) hgo _, ic_grown2P (n := L.length) (c := c2) HI.out HST.out.2 (fun b hb _ e => HNE.out b hb (by cases e; rfl)), by rw [HN.out]; exact HST.out.1⟩
                  case measure => simp [intOf]; omega
            · obtain rfl : i = L.length := by omega
              go_wp2
              go_roundw
              case rel => exact ⟨c + 1, by omega, by go_num, HB, HI, by rw [← rowP_next rfl]; exact HO.out⟩
              case measure => simp [intOf]; omega
        · obtain rfl : c = 6 := by omega
          have HF : Hid (wo.ownsRow w1.heap.size 3 1 (.slice (some ⟨go, 0, none⟩) 6 6) (powL m).length (ints (powL m))) := by
            have h := HO.out
            rw [rowP_end, ← HR.out] at h
            have e : (powL m).length = 6 := by rw [HR.out]; simp
            rw [e]; exact h
          have e6 : (powL m).length = 6 := by rw [HR.out]; simp
          have HFO := Lib.hid (Own.mono (Own.of HF.out) HB1.out.size (Nat.le_refl _)).row
          rw [e6] at HFO
          go_wp2
          go_ret2
          exact ⟨_, rfl, by rw [e6]; exact HFO.out, below_then HB1.out HB.out⟩
end Go.Proofs.Ytlojcgjkjinlcaa
