/- Contract of the reference's PowerOfColours. -/
import Derived.Test.YtlojcgjkjinlcaaKdPow1
set_option linter.unusedVariables false
set_option linter.unusedSimpArgs false
namespace Go.KD
open Go.RowKit
def powN (m : Mz) (c k : Nat) : Nat := ((List.range k).filter (powS (setWinB m) c)).length
theorem powN_yes {m : Mz} {c k : Nat} (h : powS (setWinB m) c k = true) : powN m c (k + 1) = powN m c k + 1 := by
  unfold powN; rw [List.range_succ, List.filter_append, List.length_append]; simp [h]
theorem powN_no {m : Mz} {c k : Nat} (h : powS (setWinB m) c k = false) : powN m c (k + 1) = powN m c k := by
  unfold powN; rw [List.range_succ, List.filter_append, List.length_append]; simp [h]
theorem powN_le (m : Mz) (c k : Nat) : powN m c k ≤ k := Nat.le_trans (List.length_filter_le _ _) (by simp)
/-- The row behind k sets, and the first c colours of the next one. -/
def rowN (m : Mz) (k c : Nat) : List Int := row6 fun d => ((powN m d (if d < c then k + 1 else k) : Nat) : Int)
theorem rowN_start (m : Mz) : rowN m 0 0 = List.replicate 6 0 := by
  unfold rowN
  have : (fun d : Nat => ((powN m d (if d < 0 then 0 + 1 else 0) : Nat) : Int)) = fun _ => 0 := by funext d; simp [powN]
  rw [this]; rfl
theorem rowN_next (m : Mz) (k : Nat) : rowN m k 6 = rowN m (k + 1) 0 := by
  unfold rowN
  refine row6_congr fun d hd => ?_
  rw [if_pos hd, if_neg (by omega)]
theorem rowN_at (m : Mz) (k c : Nat) (hc : c < 6) : (rowN m k c)[c]! = ((powN m c k : Nat) : Int) := by
  unfold rowN; rw [row6_at hc, if_neg (by omega)]
theorem rowN_no {m : Mz} {k c : Nat} (h : powS (setWinB m) c k = false) : rowN m k c = rowN m k (c + 1) := by
  unfold rowN
  refine row6_congr fun d hd => ?_
  by_cases h1 : d < c
  · rw [if_pos h1, if_pos (by omega)]
  · by_cases h2 : d = c
    · subst h2; rw [if_neg h1, if_pos (by omega), powN_no h]
    · rw [if_neg h1, if_neg (by omega)]
theorem rowN_yes {m : Mz} {k c : Nat} (h : powS (setWinB m) c k = true) : (rowN m k c).set c ((powN m c k + 1 : Nat) : Int) = rowN m k (c + 1) := by
  unfold rowN
  rw [row6_set]
  refine row6_congr fun d hd => ?_
  by_cases h2 : d = c
  · subst h2; rw [if_pos rfl, if_pos (by omega), powN_yes h]
  · rw [if_neg h2]
    by_cases h1 : d < c
    · rw [if_pos h1, if_pos (by omega)]
    · rw [if_neg h1, if_neg (by omega)]
theorem rowN_end (m : Mz) : rowN m 64 0 = powL m := by
  unfold rowN powL row6
  refine List.map_congr_left fun c hc => ?_
  rw [if_neg (by omega)]; rfl
@[simp] theorem rowN_len (m : Mz) (k c : Nat) : (rowN m k c).length = 6 := by simp [rowN]
theorem bit_add : ∀ c, c < 6 → ∀ s, s < 64 → s.testBit c = false → s + 2 ^ c < 64 := by decide +kernel
end Go.KD
namespace Go.Proofs.Ytlojcgjkjinlcaa
open Go.RowKit Go.KD
attribute [local go_sem] later_cell later_frozen
set_option maxRecDepth 100000 in
set_option maxHeartbeats 8000000 in
theorem specPowerOfColours_c (v : Value) (m : Mz) (w : World) (R : List Int) (b : Bool) (hp : pPowerOfColours m = (R, b)) (hm : MzAt w v m) : Calls Try.prog 46 #[v] w fun e w' => ∃ aw cw, e = .returned (.tuple #[.slice aw R.length cw, .bool b]) ∧ IC w' aw R ∧ Below w.heap.size w w' := by
  have hM := hm
  obtain ⟨⟨ad, cd, ak, ck, rfl, hd, hk'⟩, nd, nk⟩ := hM
  cases b1 : mazeB m
  · simp only [pPowerOfColours, b1] at hp
    cases hp
    go_enter Try.func46, Try.ntmps46
    go_wp2_with (go_at_call 87; refine (l2Maze_c _ m _ (hm.later (by (repeat (first | exact Below.refl _ _ | apply Below.drew | apply below_drewN | (refine Below.setCell ?_ (by first | omega | (simp; done) | (simp; omega) | (dsimp only; omega)) _) | (refine Below.alloc ?_ (by first | omega | (simp; done) | (simp; omega) | (dsimp only; omega)) _)))))).mono ?_; rintro e w1 ⟨rfl, hb1⟩; have HB1 : Hid (Below w.heap.size w w1) := below_then (by (repeat (first | exact Below.refl _ _ | apply Below.drew | apply below_drewN | (refine Below.setCell ?_ (by first | omega | (simp; done) | (simp; omega) | (dsimp only; omega)) _) | (refine Below.alloc ?_ (by first | omega | (simp; done) | (simp; omega) | (dsimp only; omega)) _)))) hb1; simp only [b1])
    have HBF := Lib.hid (HB1.out.alloc HB1.out.size (.cells #[] 3))
    go_ret2
    exact ⟨_, _, rfl, fun k hk => by simp at hk, HBF.out⟩
  · simp only [pPowerOfColours, b1, if_true, Prod.mk.injEq] at hp
    obtain ⟨rfl, rfl⟩ := hp
    have OK := Lib.hid (mazeB_true.1 b1)
    have hmk : ∀ W : World, (Instr.makeSlice 23 (.int .i64 6) (.int .i64 6)).run Try.prog W = .ok (.slice (some ⟨W.heap.size, 0, none⟩) 6 6) (W.alloc (.cells (madeCells #[.int .i64 0] 6) 3)) := fun W => run_make_row' 23 3 (.int .i64 0) 8 Try.underlying23 infoI rfl .i64 .i64 6 (by omega) (by omega) W
    go_enter Try.func46, Try.ntmps46
    go_upto_region 3 with (go_at_call 87; refine (l2Maze_c _ m _ (hm.later (by (repeat (first | exact Below.refl _ _ | apply Below.drew | apply below_drewN | (refine Below.setCell ?_ (by first | omega | (simp; done) | (simp; omega) | (dsimp only; omega)) _) | (refine Below.alloc ?_ (by first | omega | (simp; done) | (simp; omega) | (dsimp only; omega)) _)))))).mono ?_; rintro e w1 ⟨rfl, hb1⟩; obtain ⟨hc1, hf1, hz1⟩ := bcell3 hb1; have HB1 : Hid (Below w.heap.size w w1) := below_then (by (repeat (first | exact Below.refl _ _ | apply Below.drew | apply below_drewN | (refine Below.setCell ?_ (by first | omega | (simp; done) | (simp; omega) | (dsimp only; omega)) _) | (refine Below.alloc ?_ (by first | omega | (simp; done) | (simp; omega) | (dsimp only; omega)) _)))) hb1; have HC1 : Hid (w1.cell? ⟨w.heap.size, 0, none⟩ = some (.int .i64 m.size) ∧ w1.cell? ⟨w.heap.size, 1, none⟩ = some (.slice ad m.doors.length cd) ∧ w1.cell? ⟨w.heap.size, 2, none⟩ = some (.slice ak m.keys.length ck) ∧ w.heap.size < w1.heap.size) := (by refine ⟨?_, ?_, ?_, ?_⟩ <;> first | (simp [*, go_sem]; done) | (simp at hz1; omega)); clear hc1 hf1 hb1; simp only [b1])
    obtain ⟨q0, q1, q2, hz⟩ := HC1.out
    have HS2 : Hid (∀ W, Below w1.heap.size w1 W → W.cell? ⟨w.heap.size, 0, none⟩ = some (.int .i64 m.size) ∧ W.cell? ⟨w.heap.size, 1, none⟩ = some (.slice ad m.doors.length cd) ∧ W.cell? ⟨w.heap.size, 2, none⟩ = some (.slice ak m.keys.length ck)) := fun W hW => ⟨(hW.cell (p := ⟨w.heap.size, 0, none⟩) hz).trans q0, (hW.cell (p := ⟨w.heap.size, 1, none⟩) hz).trans q1, (hW.cell (p := ⟨w.heap.size, 2, none⟩) hz).trans q2⟩
    clear q0 q1 q2
    go_cut [4, 5] (fun s4 s5 wx => ∃ go g2 c2 : Nat, s4 = .slice (some ⟨go, 0, none⟩) 6 6 ∧ s5 = .slice (some ⟨g2, 0, none⟩) 64 c2 ∧ Hid (wx.ownsRow w1.heap.size 3 1 (.slice (some ⟨go, 0, none⟩) 6 6) 6 (ints (List.replicate 6 0)) ∧ (∀ k, k < 64 → wx.cell? ⟨g2, k, none⟩ = some (.bool (setWinB m k))) ∧ Below w1.heap.size w1 wx ∧ g2 ≠ go ∧ g2 < wx.heap.size))
    case first =>
      go_region_held3 (fun W => W.cell? ⟨w.heap.size, 0, none⟩ = some (.int .i64 m.size) ∧ W.cell? ⟨w.heap.size, 1, none⟩ = some (.slice ad m.doors.length cd) ∧ W.cell? ⟨w.heap.size, 2, none⟩ = some (.slice ak m.keys.length ck))
        (first | exact HS2.out _ (HB2.out.alloc HB2.out.size _) | exact HS2.out _ (by repeat (first | exact Below.refl _ _ | exact HB2.out | apply Below.drew | apply below_drewN | (refine Below.setCell ?_ (by first | omega | (simp; done) | (simp; omega) | (dsimp only; omega)) _) | (refine Below.alloc ?_ (by first | omega | (simp; done) | (simp; omega) | (dsimp only; omega)) _))))
        ((go_at_call 88; refine (l6Wins_c _ m _ ((hm.later HB1.out).later (by repeat (first | exact Below.refl _ _ | apply Below.drew | apply below_drewN | (refine Below.setCell ?_ (by first | omega | (simp; done) | (simp; omega) | (dsimp only; omega)) _) | (refine Below.alloc ?_ (by first | omega | (simp; done) | (simp; omega) | (dsimp only; omega)) _)))) OK.out).mono ?_; rintro e w2 ⟨u2, rfl, ho2, hb2⟩; have HB2 : Hid (Below w1.heap.size w1 w2) := Below.trans (by repeat (first | exact Below.refl _ _ | apply Below.drew | apply below_drewN | (refine Below.setCell ?_ (by first | omega | (simp; done) | (simp; omega) | (dsimp only; omega)) _) | (refine Below.alloc ?_ (by first | omega | (simp; done) | (simp; omega) | (dsimp only; omega)) _))) (hb2.mono (by first | exact Nat.le_refl _ | (simp; done) | (simp; omega))); have HO2 := Lib.hid ho2; have HB22 := Lib.hid hb2; clear ho2 hb2))
      all_goals
        obtain ⟨g2, c2, rfl, -, -⟩ := HO2.out.form (by omega)
        have hz2 := HB2.out.size
        have hlo := own_block_lo HO2.out (g := g2) rfl
        have hto := (Own.of HO2.out).top g2 rfl
        have HGC : Hid (∀ k, k < 64 → w2.cell? ⟨g2, k, none⟩ = some (.bool (setWinB m k))) := fun k hk => by rw [own_bool HO2.out k hk (by simp), winsK_at hk]
        go_wp2_with fail
        go_meet
        case rel =>
          first
            | exact ⟨w2.heap.size, g2, c2, rfl, rfl, (⟨own_madeL _ rfl hz2 (by unfold maxLen; omega), fun k hk => (((Below.refl _ _).alloc (Nat.le_refl _) _ : Below w2.heap.size w2 _).cell (p := ⟨g2, k, none⟩) hto).trans (HGC.out k hk), HB2.out.alloc hz2 _, by omega, by simp; omega⟩ : _ ∧ _ ∧ _ ∧ _ ∧ _)⟩
            | exact ⟨w1.heap.size, g2, c2, rfl, rfl, (⟨own_below (own_madeL (n := 6) (base := w1.heap.size) (e := 3) w1.drew rfl (Nat.le_refl _) (by unfold maxLen; omega)) HB22.out, HGC.out, HB2.out, by simp at hlo; omega, hto⟩ : _ ∧ _ ∧ _ ∧ _ ∧ _)⟩
    case rest =>
      obtain ⟨go, g2, c2, rfl, rfl, HC⟩ := hcut
      have HO0 := Lib.hid HC.out.1
      have HG0 := Lib.hid HC.out.2.1
      have HB0 := Lib.hid HC.out.2.2.1
      have hne := HC.out.2.2.2.1
      have hg2z := HC.out.2.2.2.2
      have hgo := own_block_lo HO0.out (g := go) rfl
      clear HC
      go_wp2
      go_loopw [6] (fun s wr => ∃ k : Nat, k ≤ 64 ∧ s = .int .i64 k ∧ Hid (Below w1.heap.size w1 wr) ∧ Hid (∀ k, k < 64 → wr.cell? ⟨g2, k, none⟩ = some (.bool (setWinB m k))) ∧ Hid (wr.ownsRow w1.heap.size 3 1 (.slice (some ⟨go, 0, none⟩) 6 6) 6 (ints (rowN m k 0)))) (fun s _ => 64 - (intOf s).toNat)
      case atStart => exact ⟨0, by omega, rfl, HB0, HG0, by rw [rowN_start]; exact HO0.out⟩
      case round =>
        clear HB0 HG0 HO0 hg2z
        obtain ⟨wo, rfl⟩ : ∃ wo : World, wo = wr := ⟨_, rfl⟩
        obtain ⟨k, hk, rfl, HB, HG, HO⟩ := hrel
        by_cases hk6 : k < 64
        · have hk6I : (k : Int) < 64 := by omega
          go_wp2
          go_loopw [7] (fun s wr => ∃ c : Nat, c ≤ 6 ∧ s = .int .i64 c ∧ Hid (Below w1.heap.size w1 wr) ∧ Hid (∀ k, k < 64 → wr.cell? ⟨g2, k, none⟩ = some (.bool (setWinB m k))) ∧ Hid (wr.ownsRow w1.heap.size 3 1 (.slice (some ⟨go, 0, none⟩) 6 6) 6 (ints (rowN m k c)))) (fun s _ => 6 - (intOf s).toNat)
          case atStart => exact ⟨0, by omega, rfl, HB, HG, HO⟩
          case round =>
            clear HB HG HO
            obtain ⟨wi, rfl⟩ : ∃ wi : World, wi = wr := ⟨_, rfl⟩
            obtain ⟨c, hc, rfl, HB, HG, HO⟩ := hrel
            by_cases hc6 : c < 6
            · have hc6I : (c : Int) < 6 := by omega
              have hc64 : (c : Int) < 64 := by omega
              obtain ⟨y, HY, ey⟩ := shr_at k c
              have hy : y < 1099511627776 := by
                have := HY.out; rw [Nat.shiftRight_eq_div_pow] at this; have := Nat.div_le_self k (2 ^ c); omega
              have eb := and1 hy
              have hb1 := bit_shr k c
              rw [← HY.out] at hb1
              rw [hb1] at eb
              have e1 := HG.out k hk6
              clear hy hb1
              cases pb : k.testBit c
              case true =>
                simp only [pb, if_true] at eb
                have HN := Lib.hid (rowN_no (m := m) (k := k) (c := c) (by simp [powS, pb]))
                clear pb
                go_wp2
                go_roundw
                case rel => exact ⟨c + 1, by omega, by go_num, HB, HG, by rw [← HN.out]; exact HO.out⟩
                case measure => simp [intOf]; omega
              case false =>
                simp only [pb, Bool.false_eq_true, if_false] at eb
                have h64 := bit_add c hc6 k hk6 pb
                cases hw1 : setWinB m k
                case true =>
                  rw [hw1] at e1
                  have HN := Lib.hid (rowN_no (m := m) (k := k) (c := c) (by simp [powS, pb, hw1]))
                  clear pb
                  go_wp2
                  go_roundw
                  case rel => exact ⟨c + 1, by omega, by go_num, HB, HG, by rw [← HN.out]; exact HO.out⟩
                  case measure => simp [intOf]; omega
                case false =>
                  rw [hw1] at e1
                  obtain ⟨p, HPp, ep, hp30⟩ := shl_at30P c (by omega)
                  rw [← HPp.out] at h64
                  have e2 := HG.out (k + p) h64
                  have hwa : IntKind.i64.wrap ((k : Int) + (p : Int)) = ((k + p : Nat) : Int) := by rw [IntKind.wrap_i64]; omega
                  have hkp : ((k + p : Nat) : Int) < 64 := by omega
                  cases hw2 : setWinB m (k + p)
                  case false =>
                    rw [hw2] at e2
                    have HN := Lib.hid (rowN_no (m := m) (k := k) (c := c) (by simp [powS, pb, hw1, ← HPp.out, hw2]))
                    clear pb
                    go_wp2
                    go_roundw
                    case rel => exact ⟨c + 1, by omega, by go_num, HB, HG, by rw [← HN.out]; exact HO.out⟩
                    case measure => simp [intOf]; omega
                  case true =>
                    rw [hw2] at e2
                    have HN := Lib.hid (rowN_yes (m := m) (k := k) (c := c) (by simp [powS, pb, hw1, ← HPp.out, hw2]))
                    have hpl := powN_le m c k
                    have e5 := own_intZ HO.out c hc6 (by simp)
                    rw [rowN_at m k c hc6] at e5
                    obtain ⟨pv, hpv⟩ : ∃ pv, pv = powN m c k := ⟨_, rfl⟩
                    rw [← hpv] at hpl e5 HN
                    have f5 : wi.frozen? ⟨go, c, none⟩ = false := HO.out.frozenAt _
                    have hw : IntKind.i64.wrap ((pv : Int) + 1) = ((pv + 1 : Nat) : Int) := by rw [IntKind.wrap_i64]; omega
                    have st := own_store1 HO.out c ((pv + 1 : Nat) : Int)
                    rw [HN.out] at st
                    have HST := Lib.hid st
                    clear pb st hpv
                    go_wp2
                    go_roundw
                    case rel => exact ⟨c + 1, by omega, by go_num, Below.setCell HB.out (p := ⟨go, c, none⟩) hgo _, fun j hj => by rw [World.cell?_setCell_other _ _ _ _ (by intro e; cases e; exact hne rfl)]; exact HG.out j hj, HST.out.1⟩
                    case measure => simp [intOf]; omega
            · obtain rfl : c = 6 := by omega
              go_wp2
              go_roundw
              case rel => exact ⟨k + 1, by omega, by go_num, HB, HG, by rw [← rowN_next]; exact HO.out⟩
              case measure => simp [intOf]; omega
        · obtain rfl : k = 64 := by omega
          have e6 : (powL m).length = 6 := by rw [← rowN_end]; simp
          have HIF : Hid (IC wo (some ⟨go, 0, none⟩) (powL m)) := by
            have h := HO.out
            rw [rowN_end] at h
            exact ic_of' (Own.of h) e6.symm
          go_wp2
          go_ret2
          exact ⟨_, _, by rw [e6]; rfl, HIF.out, below_then HB1.out HB.out⟩
end Go.Proofs.Ytlojcgjkjinlcaa
