/- Contract of l8Acts. -/
import Derived.Test.YtldogbahbjompaaKdPut2
import Derived.Test.YtldogbahbjompaaKdActs
set_option linter.unusedVariables false
set_option linter.unusedSimpArgs false
namespace Go.Proofs.Ytldogbahbjompaa
open Go.RowKit Go.KD
attribute [local go_sem] later_cell later_frozen
theorem heap2b (w : World) (a o p : Obj) : (((w.alloc a).alloc o).alloc p).heap[w.heap.size + 1]? = some o := (heap_alloc_old _ _ (by simp)).trans (heap_alloc2_new w a o)
theorem own_some {w : World} {base : Nat} {e : TypeId} {size n : Nat} {v : Value} {xs : List Value} (h : w.ownsRow base e size v n xs) (hn : 0 < n) : ∃ g c, v = .slice (some ⟨g, 0, none⟩) n c ∧ n ≤ c ∧ c ≤ maxLen := by
  rcases h.2 with ⟨_, h0⟩ | ⟨g, c, cur, hv, _, _, hc, hm, _⟩
  · omega
  · exact ⟨g, c, hv, hc, hm⟩
def SLB (base : Nat) (w : World) (v : Value) (L : List Int) : Prop := ∃ b off c, v = .slice (some ⟨b, off, none⟩) L.length c ∧ IC w (some ⟨b, off, none⟩) L ∧ L.length ≤ c ∧ c ≤ maxLen ∧ base ≤ b
def SL (w : World) (v : Value) (L : List Int) : Prop := ∃ b off c, v = .slice (some ⟨b, off, none⟩) L.length c ∧ IC w (some ⟨b, off, none⟩) L ∧ L.length ≤ c ∧ c ≤ maxLen
theorem SL_nil (base : Nat) (w : World) (b off c : Nat) (h : c ≤ maxLen) (hb : base ≤ b) : SLB base w (.slice (some ⟨b, off, none⟩) 0 c) [] := ⟨b, off, c, rfl, fun j hj => absurd hj (Nat.not_lt_zero j), Nat.zero_le _, h, hb⟩
set_option maxRecDepth 100000 in
set_option maxHeartbeats 8000000 in
theorem l8ActsB_c (v : Value) (m : Wk) (x l : Nat) (w : World) (hm : WkAt w v m) (ok : WkOk m) (hx : (x : Int) < m.size) (hl : l < 64) :
    Calls Try.prog 101 #[v, .int .i64 x, .int .i64 l] w fun e w' => ∃ u, e = .returned u ∧ SLB w.heap.size w' u (actsL m x l) ∧ Below w.heap.size w w' := by
  have hM := hm
  obtain ⟨⟨ad, cd, ak, ck, rfl, hd, hk'⟩, nd, nk⟩ := hM
  obtain ⟨i0, ji, jz0, jz1, jz2⟩ := info_parts infoI
  have hng := ok.ng
  have hnp : x < m.pulls.length := by have := ok.np; omega
  have hpl := ok.pl x hnp
  obtain ⟨s, gs, ps⟩ := m
  dsimp only at *
  have OK := Lib.hid ok; clear ok
  have hs2 : s ≤ 12 := OK.out.s2
  have hx12 : x < 12 := by omega
  obtain ⟨bp, offp, pv, rfl, HX, hbs, ep⟩ := hk'.at x hnp
  rw [HX.out] at hpl
  have hp0 : 0 ≤ pv := (setB_true.1 hpl).1
  clear hpl
  obtain ⟨pre, hpre⟩ : ∃ pre : List Int, pre = if pv = 0 then [] else [-1] := ⟨_, rfl⟩
  have hpre2 : pre = [] ∨ pre = [-1] := by rw [hpre]; split <;> simp
  have hprel : pre.length ≤ 1 := by rcases hpre2 with h | h <;> simp [h]
  have HA : Hid (actsL ⟨s, gs, ps⟩ x l = pre ++ mem (nbK gs x l gs.length)) := by show _ = _; rw [hpre]; simp [actsL, HX.out]
  have HPRE := Lib.hid hpre; clear hpre
  have HPRE2 := Lib.hid hpre2; clear hpre2
  have hml : ∀ t, (pre ++ mem t).length ≤ 41 := by intro t; have := memK_len t 40; rw [List.length_append, mem_eq]; omega
  have HML := Lib.hid hml; clear hml
  have H0 : Hid (pre ++ mem (nbK gs x l 0) = pre) := by show _ = _; simp [nbK, mem, memN]
  cases p0 : decide (0 < pv)
  · have HE0 : Hid (pre = []) := by show _ = _; rw [HPRE.out, if_pos]; simp at p0; omega
    go_enter Try.func101, Try.ntmps101
    go_wp2
    go_loopw [7, 8] (fun u i wr => ∃ k : Nat, k ≤ gs.length ∧ i = .int .i64 k ∧ Hid (SLB w.heap.size wr u (pre ++ mem (nbK gs x l k))) ∧ Below (w.heap.size + 1) (w.alloc (.cells #[.int .i64 s, .slice ad gs.length cd, .slice (some ⟨bp, offp, none⟩) ps.length ck] 40)) wr) (fun _ i _ => gs.length - (intOf i).toNat)
    case atStart => exact ⟨0, Nat.zero_le _, rfl, by rw [H0.out, HE0.out]; exact SL_nil _ _ _ _ _ (Nat.zero_le _) (by omega), (Below.refl _ _).alloc (by simp) _⟩
    case round =>
      obtain ⟨wo, rfl⟩ : ∃ wo : World, wo = wr := ⟨_, rfl⟩
      obtain ⟨k, hkl, rfl, HS, hb⟩ := hrel
      obtain ⟨hc, hf, hz⟩ := bcell3 hb
      simp only [World.size_alloc] at hz
      have hz1 : w.heap.size < wo.heap.size := by omega
      have HB : Hid (Below w.heap.size w wo) := (by (repeat (first | exact Below.refl _ _ | apply Below.drew | apply below_drewN | (refine Below.setCell ?_ (by first | omega | (simp; done) | (simp; omega) | (dsimp only; omega)) _) | (refine Below.alloc ?_ (by first | omega | (simp; done) | (simp; omega) | (dsimp only; omega)) _))) : Below w.heap.size w (w.alloc _)).trans (hb.mono (by omega))
      have HBo := Lib.hid hb
      obtain ⟨sN, hsN⟩ : ∃ sN, sN = nbK gs x l k := ⟨_, rfl⟩
      have hL41 := HML.out sN
      obtain ⟨L, hL⟩ : ∃ L, L = pre ++ mem sN := ⟨_, rfl⟩
      rw [← hsN, ← hL] at HS
      rw [← hL] at hL41
      have HL := Lib.hid hL; clear hL
      obtain ⟨bo, oo, co, rfl, ho, hr, hmx, hlo⟩ := HS.out
      have HO := Lib.hid ho; clear ho
      by_cases hlt : k < gs.length
      · obtain ⟨b, off, x0, y0, z0, u0, rfl, HX2, hbs2, e0, e1, e2, e3⟩ := (hd.later HB.out).at k hlt
        obtain ⟨f1, f2, f3, f4, f5, f6, f7⟩ := gate_facts OK.out hlt HX2.out
        dsimp only at f3
        obtain ⟨xn, rfl⟩ := Int.eq_ofNat_of_zero_le f1
        obtain ⟨yn, rfl⟩ := Int.eq_ofNat_of_zero_le (show 0 ≤ y0 by omega)
        obtain ⟨zn, rfl⟩ := Int.eq_ofNat_of_zero_le f4
        have hx40 : xn < 40 := by omega
        have hy40 : yn < 40 := by omega
        have hz64 : zn < 64 := by omega
        have HN : Hid (nbK gs x l (k + 1) = adjG x l sN ((xn : Int), (yn : Int), (zn : Int), u0)) := by show _ = _; rw [nb_step hlt, HX2.out, hsN]
        clear hsN
        cases po : openB ((xn : Int), (yn : Int), (zn : Int), u0) l
        · have HF : Hid (nbK gs x l (k + 1) = sN) := by show _ = _; rw [HN.out]; simp [adjG, po]
          go_wp2_with fail
          refine (l8Open_c _ _ _ zn l hz64 hl _).mono ?_
          rintro e w2 ⟨rfl, hb2⟩
          have HB2 : Hid (Below (w.heap.size + 1) (w.alloc (.cells #[.int .i64 s, .slice (some ⟨b, off, none⟩) gs.length cd, .slice (some ⟨bp, offp, none⟩) ps.length ck] 40)) w2) := (HBo.out.alloc (by omega) _).trans (hb2.mono (by simp; omega))
          have HI2 : Hid (IC w2 (some ⟨bo, oo, none⟩) L) := (HO.out.later ((Below.refl _ _).alloc (Nat.le_refl _) _)).later hb2
          have hz2 : wo.heap.size < w2.heap.size := by have := hb2.size; simp at this; omega
          have k0 : w2.cell? ⟨wo.heap.size, 0, none⟩ = some (.int .i64 xn) := by rw [hb2.cell (p := ⟨wo.heap.size, 0, none⟩) (by simp)]; simp [go_sem]
          have k1 : w2.cell? ⟨wo.heap.size, 1, none⟩ = some (.int .i64 yn) := by rw [hb2.cell (p := ⟨wo.heap.size, 1, none⟩) (by simp)]; simp [go_sem]
          clear hb2 hc hf
          rw [po]
          go_wp2
          go_roundw
          case rel => exact ⟨k + 1, by omega, by go_num, by rw [HF.out, ← HL.out]; exact ⟨_, _, _, rfl, HI2.out, hr, hmx, by omega⟩, HB2.out⟩
          case measure => simp [intOf]; omega
        · cases p1 : ((xn : Int) == (x : Int)) <;> cases p2 : ((yn : Int) == (x : Int))
          case false.false =>
            go_wp2_with fail
            refine (l8Open_c _ _ _ zn l hz64 hl _).mono ?_
            rintro e w2 ⟨rfl, hb2⟩
            have HB2 : Hid (Below (w.heap.size + 1) (w.alloc (.cells #[.int .i64 s, .slice (some ⟨b, off, none⟩) gs.length cd, .slice (some ⟨bp, offp, none⟩) ps.length ck] 40)) w2) := (HBo.out.alloc (by omega) _).trans (hb2.mono (by simp; omega))
            have HI2 : Hid (IC w2 (some ⟨bo, oo, none⟩) L) := (HO.out.later ((Below.refl _ _).alloc (Nat.le_refl _) _)).later hb2
            have hz2 : wo.heap.size < w2.heap.size := by have := hb2.size; simp at this; omega
            have k0 : w2.cell? ⟨wo.heap.size, 0, none⟩ = some (.int .i64 xn) := by rw [hb2.cell (p := ⟨wo.heap.size, 0, none⟩) (by simp)]; simp [go_sem]
            have k1 : w2.cell? ⟨wo.heap.size, 1, none⟩ = some (.int .i64 yn) := by rw [hb2.cell (p := ⟨wo.heap.size, 1, none⟩) (by simp)]; simp [go_sem]
            clear hb2 hc hf
            rw [po]
            go_wp2
            go_roundw
            case rel =>
              have HF : nbK gs x l (k + 1) = sN := by
                rw [HN.out]; simp only [adjG, po, if_true]; simp only [beq_iff_eq, beq_eq_false_iff_ne] at p1 p2
                first | rw [if_pos p2, if_pos p1] | rw [if_pos p2, if_neg p1] | rw [if_neg p2, if_pos p1] | rw [if_neg p2, if_neg p1]
                all_goals simp [setN]
              refine ⟨k + 1, by omega, by go_num, ?_, HB2.out⟩
              rw [HF]
              have HE : pre ++ mem (sN) = L := by exact HL.out.symm
              rw [HE]
              exact ⟨_, _, _, rfl, HI2.out, hr, hmx, by omega⟩
            case measure => simp [intOf]; omega
          case false.true =>
            go_wp2_with fail
            refine (l8Open_c _ _ _ zn l hz64 hl _).mono ?_
            rintro e w2 ⟨rfl, hb2⟩
            have HB2 : Hid (Below (w.heap.size + 1) (w.alloc (.cells #[.int .i64 s, .slice (some ⟨b, off, none⟩) gs.length cd, .slice (some ⟨bp, offp, none⟩) ps.length ck] 40)) w2) := (HBo.out.alloc (by omega) _).trans (hb2.mono (by simp; omega))
            have HI2 : Hid (IC w2 (some ⟨bo, oo, none⟩) L) := (HO.out.later ((Below.refl _ _).alloc (Nat.le_refl _) _)).later hb2
            have hz2 : wo.heap.size < w2.heap.size := by have := hb2.size; simp at this; omega
            have k0 : w2.cell? ⟨wo.heap.size, 0, none⟩ = some (.int .i64 xn) := by rw [hb2.cell (p := ⟨wo.heap.size, 0, none⟩) (by simp)]; simp [go_sem]
            have k1 : w2.cell? ⟨wo.heap.size, 1, none⟩ = some (.int .i64 yn) := by rw [hb2.cell (p := ⟨wo.heap.size, 1, none⟩) (by simp)]; simp [go_sem]
            clear hb2 hc hf
            rw [po]
            have h41 := hL41
            go_wp2_with fail
            refine (l1PutB_c _ _ _ L (xn : Int) _ HI2.out (by omega) hr hmx).mono ?_
            rintro e w3 ⟨bo3, oo3, co3, rfl, hi3, hr3, hm3, hb3, hlo3⟩
            have HB3 : Hid (Below (w.heap.size + 1) (w.alloc (.cells #[.int .i64 s, .slice (some ⟨b, off, none⟩) gs.length cd, .slice (some ⟨bp, offp, none⟩) ps.length ck] 40)) w3) := HB2.out.trans (hb3.mono (by omega))
            have hz3 : wo.heap.size < w3.heap.size := by have := hb3.size; omega
            have k0 := (hb3.cell (p := ⟨wo.heap.size, 0, none⟩) hz2).trans k0
            have k1 := (hb3.cell (p := ⟨wo.heap.size, 1, none⟩) hz2).trans k1
            obtain ⟨L1, hL1⟩ : ∃ M, M = putL L (xn : Int) := ⟨_, rfl⟩
            rw [← hL1] at hi3 hr3 ⊢
            have HI3 := Lib.hid hi3; clear hi3 hb3
            have HL1 := Lib.hid hL1; clear hL1
            go_wp2
            go_roundw
            case rel =>
              have HF : nbK gs x l (k + 1) = sN ||| 2 ^ xn := by
                rw [HN.out]; simp only [adjG, po, if_true]; simp only [beq_iff_eq, beq_eq_false_iff_ne] at p1 p2
                first | rw [if_pos p2, if_pos p1] | rw [if_pos p2, if_neg p1] | rw [if_neg p2, if_pos p1] | rw [if_neg p2, if_neg p1]
                all_goals simp [setN]
              refine ⟨k + 1, by omega, by go_num, ?_, HB3.out⟩
              rw [HF]
              have HE : pre ++ mem (sN ||| 2 ^ xn) = L1 := by rw [HL1.out, HL.out, put_mem _ HPRE2.out _ _ hx40]
              rw [HE]
              exact ⟨_, _, _, rfl, HI3.out, hr3, hm3, by omega⟩
            case measure => simp [intOf]; omega
          case true.false =>
            go_wp2_with fail
            refine (l8Open_c _ _ _ zn l hz64 hl _).mono ?_
            rintro e w2 ⟨rfl, hb2⟩
            have HB2 : Hid (Below (w.heap.size + 1) (w.alloc (.cells #[.int .i64 s, .slice (some ⟨b, off, none⟩) gs.length cd, .slice (some ⟨bp, offp, none⟩) ps.length ck] 40)) w2) := (HBo.out.alloc (by omega) _).trans (hb2.mono (by simp; omega))
            have HI2 : Hid (IC w2 (some ⟨bo, oo, none⟩) L) := (HO.out.later ((Below.refl _ _).alloc (Nat.le_refl _) _)).later hb2
            have hz2 : wo.heap.size < w2.heap.size := by have := hb2.size; simp at this; omega
            have k0 : w2.cell? ⟨wo.heap.size, 0, none⟩ = some (.int .i64 xn) := by rw [hb2.cell (p := ⟨wo.heap.size, 0, none⟩) (by simp)]; simp [go_sem]
            have k1 : w2.cell? ⟨wo.heap.size, 1, none⟩ = some (.int .i64 yn) := by rw [hb2.cell (p := ⟨wo.heap.size, 1, none⟩) (by simp)]; simp [go_sem]
            clear hb2 hc hf
            rw [po]
            go_wp2_with fail
            refine (l1PutB_c _ _ _ L (yn : Int) _ HI2.out (by omega) hr hmx).mono ?_
            rintro e w3 ⟨bo3, oo3, co3, rfl, hi3, hr3, hm3, hb3, hlo3⟩
            have HB3 : Hid (Below (w.heap.size + 1) (w.alloc (.cells #[.int .i64 s, .slice (some ⟨b, off, none⟩) gs.length cd, .slice (some ⟨bp, offp, none⟩) ps.length ck] 40)) w3) := HB2.out.trans (hb3.mono (by omega))
            have hz3 : wo.heap.size < w3.heap.size := by have := hb3.size; omega
            have k0 := (hb3.cell (p := ⟨wo.heap.size, 0, none⟩) hz2).trans k0
            have k1 := (hb3.cell (p := ⟨wo.heap.size, 1, none⟩) hz2).trans k1
            obtain ⟨L1, hL1⟩ : ∃ M, M = putL L (yn : Int) := ⟨_, rfl⟩
            rw [← hL1] at hi3 hr3 ⊢
            have HI3 := Lib.hid hi3; clear hi3 hb3
            have HL1 := Lib.hid hL1; clear hL1
            go_wp2
            go_roundw
            case rel =>
              have HF : nbK gs x l (k + 1) = sN ||| 2 ^ yn := by
                rw [HN.out]; simp only [adjG, po, if_true]; simp only [beq_iff_eq, beq_eq_false_iff_ne] at p1 p2
                first | rw [if_pos p2, if_pos p1] | rw [if_pos p2, if_neg p1] | rw [if_neg p2, if_pos p1] | rw [if_neg p2, if_neg p1]
                all_goals simp [setN]
              refine ⟨k + 1, by omega, by go_num, ?_, HB3.out⟩
              rw [HF]
              have HE : pre ++ mem (sN ||| 2 ^ yn) = L1 := by rw [HL1.out, HL.out, put_mem _ HPRE2.out _ _ hy40]
              rw [HE]
              exact ⟨_, _, _, rfl, HI3.out, hr3, hm3, by omega⟩
            case measure => simp [intOf]; omega
          case true.true =>
            go_wp2_with fail
            refine (l8Open_c _ _ _ zn l hz64 hl _).mono ?_
            rintro e w2 ⟨rfl, hb2⟩
            have HB2 : Hid (Below (w.heap.size + 1) (w.alloc (.cells #[.int .i64 s, .slice (some ⟨b, off, none⟩) gs.length cd, .slice (some ⟨bp, offp, none⟩) ps.length ck] 40)) w2) := (HBo.out.alloc (by omega) _).trans (hb2.mono (by simp; omega))
            have HI2 : Hid (IC w2 (some ⟨bo, oo, none⟩) L) := (HO.out.later ((Below.refl _ _).alloc (Nat.le_refl _) _)).later hb2
            have hz2 : wo.heap.size < w2.heap.size := by have := hb2.size; simp at this; omega
            have k0 : w2.cell? ⟨wo.heap.size, 0, none⟩ = some (.int .i64 xn) := by rw [hb2.cell (p := ⟨wo.heap.size, 0, none⟩) (by simp)]; simp [go_sem]
            have k1 : w2.cell? ⟨wo.heap.size, 1, none⟩ = some (.int .i64 yn) := by rw [hb2.cell (p := ⟨wo.heap.size, 1, none⟩) (by simp)]; simp [go_sem]
            clear hb2 hc hf
            rw [po]
            go_wp2_with fail
            refine (l1PutB_c _ _ _ L (yn : Int) _ HI2.out (by omega) hr hmx).mono ?_
            rintro e w3 ⟨bo3, oo3, co3, rfl, hi3, hr3, hm3, hb3, hlo3⟩
            have HB3 : Hid (Below (w.heap.size + 1) (w.alloc (.cells #[.int .i64 s, .slice (some ⟨b, off, none⟩) gs.length cd, .slice (some ⟨bp, offp, none⟩) ps.length ck] 40)) w3) := HB2.out.trans (hb3.mono (by omega))
            have hz3 : wo.heap.size < w3.heap.size := by have := hb3.size; omega
            have k0 := (hb3.cell (p := ⟨wo.heap.size, 0, none⟩) hz2).trans k0
            have k1 := (hb3.cell (p := ⟨wo.heap.size, 1, none⟩) hz2).trans k1
            obtain ⟨L1, hL1⟩ : ∃ M, M = putL L (yn : Int) := ⟨_, rfl⟩
            rw [← hL1] at hi3 hr3 ⊢
            have HI3 := Lib.hid hi3; clear hi3 hb3
            have HL1 := Lib.hid hL1; clear hL1
            have HE1 : Hid (L1 = pre ++ mem (sN ||| 2 ^ yn)) := by show _ = _; rw [HL1.out, HL.out, put_mem _ HPRE2.out _ _ hy40]
            have hL141 : L1.length ≤ 41 := by rw [HE1.out]; exact HML.out _
            go_wp2_with fail
            refine (l1PutB_c _ _ _ L1 (xn : Int) _ HI3.out (by omega) hr3 hm3).mono ?_
            rintro e w4 ⟨bo4, oo4, co4, rfl, hi4, hr4, hm4, hb4, hlo4⟩
            have HB4 : Hid (Below (w.heap.size + 1) (w.alloc (.cells #[.int .i64 s, .slice (some ⟨b, off, none⟩) gs.length cd, .slice (some ⟨bp, offp, none⟩) ps.length ck] 40)) w4) := HB3.out.trans (hb4.mono (by omega))
            have hz4 : wo.heap.size < w4.heap.size := by have := hb4.size; omega
            have k0 := (hb4.cell (p := ⟨wo.heap.size, 0, none⟩) hz3).trans k0
            have k1 := (hb4.cell (p := ⟨wo.heap.size, 1, none⟩) hz3).trans k1
            obtain ⟨L2, hL2⟩ : ∃ M, M = putL L1 (xn : Int) := ⟨_, rfl⟩
            rw [← hL2] at hi4 hr4 ⊢
            have HI4 := Lib.hid hi4; clear hi4 hb4
            have HL2 := Lib.hid hL2; clear hL2
            go_wp2
            go_roundw
            case rel =>
              have HF : nbK gs x l (k + 1) = (sN ||| 2 ^ yn) ||| 2 ^ xn := by
                rw [HN.out]; simp only [adjG, po, if_true]; simp only [beq_iff_eq, beq_eq_false_iff_ne] at p1 p2
                first | rw [if_pos p2, if_pos p1] | rw [if_pos p2, if_neg p1] | rw [if_neg p2, if_pos p1] | rw [if_neg p2, if_neg p1]
                all_goals simp [setN]
              refine ⟨k + 1, by omega, by go_num, ?_, HB4.out⟩
              rw [HF]
              have HE : pre ++ mem ((sN ||| 2 ^ yn) ||| 2 ^ xn) = L2 := by rw [HL2.out, HE1.out, put_mem _ HPRE2.out _ _ hx40]
              rw [HE]
              exact ⟨_, _, _, rfl, HI4.out, hr4, hm4, by omega⟩
            case measure => simp [intOf]; omega
      · obtain rfl : k = gs.length := by omega
        have HE : Hid (actsL ⟨s, gs, ps⟩ x l = L) := by show _ = _; rw [HA.out, HL.out, hsN]
        clear hsN
        go_wp2
        go_ret
        exact ⟨_, rfl, by rw [HE.out]; exact ⟨_, _, _, rfl, HO.out, hr, hmx, by omega⟩, HB.out⟩
  · have HE0 : Hid (pre = [-1]) := by show _ = _; rw [HPRE.out, if_neg]; simp at p0; omega
    go_enter Try.func101, Try.ntmps101
    go_wp2_with (at_builtin; refine wpList_append_own _ rfl _ _ 23 rfl (w.heap.size + 1) 3 i0 (.int .i64 0) 1 8 Try.underlying23 ji jz0 jz1 jz2 rfl (by decide) _ 0 [] rfl (own_empty (heap2b _ _ _ _) (by simp)) ⟨w.heap.size + 2, 0, none⟩ 1 1 [.int .i64 (-1)] rfl rfl ?_ ?_ ?_ ?_ ?_ ?_; (intro j u hu; rcases j with _ | j; (simp at hu; subst hu; simp [go_sem, Addr.add]); (simp at hu)); (simp [Value.oneCell']); (unfold maxLen; omega); omega; (simp; try omega); intro v1 w1 hown1 hgrow1 _)
    have HB1 : Hid (Below (w.heap.size + 1) (w.alloc (.cells #[.int .i64 s, .slice ad gs.length cd, .slice (some ⟨bp, offp, none⟩) ps.length ck] 40)) w1) := ((((Below.refl _ _).alloc (by simp) _).alloc (by simp; try omega) _).grown hgrow1 (by simp; try omega) (fun g hg => by cases hg; simp))
    have HS1 : Hid (SLB w.heap.size w1 v1 pre) := by
      rw [HE0.out]
      obtain ⟨g, c, rfl, hc, hm⟩ := own_some (by simpa using hown1) (by simp)
      have ho1 : w1.ownsRow (w.heap.size + 1) 3 1 (.slice (some ⟨g, 0, none⟩) 1 c) [(-1 : Int)].length (ints [-1]) := by simpa [ints] using hown1
      obtain ⟨a', c', he, _, hi⟩ := (Own.of ho1).ic
      cases he
      exact ⟨g, 0, c, rfl, hi, hc, hm, by have := own_block_lo ho1 (g := g) rfl; omega⟩
    clear hown1 hgrow1
    go_wp2
    go_loopw [7, 8] (fun u i wr => ∃ k : Nat, k ≤ gs.length ∧ i = .int .i64 k ∧ Hid (SLB w.heap.size wr u (pre ++ mem (nbK gs x l k))) ∧ Below (w.heap.size + 1) (w.alloc (.cells #[.int .i64 s, .slice ad gs.length cd, .slice (some ⟨bp, offp, none⟩) ps.length ck] 40)) wr) (fun _ i _ => gs.length - (intOf i).toNat)
    case atStart => exact ⟨0, Nat.zero_le _, rfl, by rw [H0.out]; exact HS1.out, HB1.out⟩
    case round =>
      obtain ⟨wo, rfl⟩ : ∃ wo : World, wo = wr := ⟨_, rfl⟩
      obtain ⟨k, hkl, rfl, HS, hb⟩ := hrel
      obtain ⟨hc, hf, hz⟩ := bcell3 hb
      simp only [World.size_alloc] at hz
      have hz1 : w.heap.size < wo.heap.size := by omega
      have HB : Hid (Below w.heap.size w wo) := (by (repeat (first | exact Below.refl _ _ | apply Below.drew | apply below_drewN | (refine Below.setCell ?_ (by first | omega | (simp; done) | (simp; omega) | (dsimp only; omega)) _) | (refine Below.alloc ?_ (by first | omega | (simp; done) | (simp; omega) | (dsimp only; omega)) _))) : Below w.heap.size w (w.alloc _)).trans (hb.mono (by omega))
      have HBo := Lib.hid hb
      obtain ⟨sN, hsN⟩ : ∃ sN, sN = nbK gs x l k := ⟨_, rfl⟩
      have hL41 := HML.out sN
      obtain ⟨L, hL⟩ : ∃ L, L = pre ++ mem sN := ⟨_, rfl⟩
      rw [← hsN, ← hL] at HS
      rw [← hL] at hL41
      have HL := Lib.hid hL; clear hL
      obtain ⟨bo, oo, co, rfl, ho, hr, hmx, hlo⟩ := HS.out
      have HO := Lib.hid ho; clear ho
      by_cases hlt : k < gs.length
      · obtain ⟨b, off, x0, y0, z0, u0, rfl, HX2, hbs2, e0, e1, e2, e3⟩ := (hd.later HB.out).at k hlt
        obtain ⟨f1, f2, f3, f4, f5, f6, f7⟩ := gate_facts OK.out hlt HX2.out
        dsimp only at f3
        obtain ⟨xn, rfl⟩ := Int.eq_ofNat_of_zero_le f1
        obtain ⟨yn, rfl⟩ := Int.eq_ofNat_of_zero_le (show 0 ≤ y0 by omega)
        obtain ⟨zn, rfl⟩ := Int.eq_ofNat_of_zero_le f4
        have hx40 : xn < 40 := by omega
        have hy40 : yn < 40 := by omega
        have hz64 : zn < 64 := by omega
        have HN : Hid (nbK gs x l (k + 1) = adjG x l sN ((xn : Int), (yn : Int), (zn : Int), u0)) := by show _ = _; rw [nb_step hlt, HX2.out, hsN]
        clear hsN
        cases po : openB ((xn : Int), (yn : Int), (zn : Int), u0) l
        · have HF : Hid (nbK gs x l (k + 1) = sN) := by show _ = _; rw [HN.out]; simp [adjG, po]
          go_wp2_with fail
          refine (l8Open_c _ _ _ zn l hz64 hl _).mono ?_
          rintro e w2 ⟨rfl, hb2⟩
          have HB2 : Hid (Below (w.heap.size + 1) (w.alloc (.cells #[.int .i64 s, .slice (some ⟨b, off, none⟩) gs.length cd, .slice (some ⟨bp, offp, none⟩) ps.length ck] 40)) w2) := (HBo.out.alloc (by omega) _).trans (hb2.mono (by simp; omega))
          have HI2 : Hid (IC w2 (some ⟨bo, oo, none⟩) L) := (HO.out.later ((Below.refl _ _).alloc (Nat.le_refl _) _)).later hb2
          have hz2 : wo.heap.size < w2.heap.size := by have := hb2.size; simp at this; omega
          have k0 : w2.cell? ⟨wo.heap.size, 0, none⟩ = some (.int .i64 xn) := by rw [hb2.cell (p := ⟨wo.heap.size, 0, none⟩) (by simp)]; simp [go_sem]
          have k1 : w2.cell? ⟨wo.heap.size, 1, none⟩ = some (.int .i64 yn) := by rw [hb2.cell (p := ⟨wo.heap.size, 1, none⟩) (by simp)]; simp [go_sem]
          clear hb2 hc hf
          rw [po]
          go_wp2
          go_roundw
          case rel => exact ⟨k + 1, by omega, by go_num, by rw [HF.out, ← HL.out]; exact ⟨_, _, _, rfl, HI2.out, hr, hmx, by omega⟩, HB2.out⟩
          case measure => simp [intOf]; omega
        · cases p1 : ((xn : Int) == (x : Int)) <;> cases p2 : ((yn : Int) == (x : Int))
          case false.false =>
            go_wp2_with fail
            refine (l8Open_c _ _ _ zn l hz64 hl _).mono ?_
            rintro e w2 ⟨rfl, hb2⟩
            have HB2 : Hid (Below (w.heap.size + 1) (w.alloc (.cells #[.int .i64 s, .slice (some ⟨b, off, none⟩) gs.length cd, .slice (some ⟨bp, offp, none⟩) ps.length ck] 40)) w2) := (HBo.out.alloc (by omega) _).trans (hb2.mono (by simp; omega))
            have HI2 : Hid (IC w2 (some ⟨bo, oo, none⟩) L) := (HO.out.later ((Below.refl _ _).alloc (Nat.le_refl _) _)).later hb2
            have hz2 : wo.heap.size < w2.heap.size := by have := hb2.size; simp at this; omega
            have k0 : w2.cell? ⟨wo.heap.size, 0, none⟩ = some (.int .i64 xn) := by rw [hb2.cell (p := ⟨wo.heap.size, 0, none⟩) (by simp)]; simp [go_sem]
            have k1 : w2.cell? ⟨wo.heap.size, 1, none⟩ = some (.int .i64 yn) := by rw [hb2.cell (p := ⟨wo.heap.size, 1, none⟩) (by simp)]; simp [go_sem]
            clear hb2 hc hf
            rw [po]
            go_wp2
            go_roundw
            case rel =>
              have HF : nbK gs x l (k + 1) = sN := by
                rw [HN.out]; simp only [adjG, po, if_true]; simp only [beq_iff_eq, beq_eq_false_iff_ne] at p1 p2
                first | rw [if_pos p2, if_pos p1] | rw [if_pos p2, if_neg p1] | rw [if_neg p2, if_pos p1] | rw [if_neg p2, if_neg p1]
                all_goals simp [setN]
              refine ⟨k + 1, by omega, by go_num, ?_, HB2.out⟩
              rw [HF]
              have HE : pre ++ mem (sN) = L := by exact HL.out.symm
              rw [HE]
              exact ⟨_, _, _, rfl, HI2.out, hr, hmx, by omega⟩
            case measure => simp [intOf]; omega
          case false.true =>
            go_wp2_with fail
            refine (l8Open_c _ _ _ zn l hz64 hl _).mono ?_
            rintro e w2 ⟨rfl, hb2⟩
            have HB2 : Hid (Below (w.heap.size + 1) (w.alloc (.cells #[.int .i64 s, .slice (some ⟨b, off, none⟩) gs.length cd, .slice (some ⟨bp, offp, none⟩) ps.length ck] 40)) w2) := (HBo.out.alloc (by omega) _).trans (hb2.mono (by simp; omega))
            have HI2 : Hid (IC w2 (some ⟨bo, oo, none⟩) L) := (HO.out.later ((Below.refl _ _).alloc (Nat.le_refl _) _)).later hb2
            have hz2 : wo.heap.size < w2.heap.size := by have := hb2.size; simp at this; omega
            have k0 : w2.cell? ⟨wo.heap.size, 0, none⟩ = some (.int .i64 xn) := by rw [hb2.cell (p := ⟨wo.heap.size, 0, none⟩) (by simp)]; simp [go_sem]
            have k1 : w2.cell? ⟨wo.heap.size, 1, none⟩ = some (.int .i64 yn) := by rw [hb2.cell (p := ⟨wo.heap.size, 1, none⟩) (by simp)]; simp [go_sem]
            clear hb2 hc hf
            rw [po]
            have h41 := hL41
            go_wp2_with fail
            refine (l1PutB_c _ _ _ L (xn : Int) _ HI2.out (by omega) hr hmx).mono ?_
            rintro e w3 ⟨bo3, oo3, co3, rfl, hi3, hr3, hm3, hb3, hlo3⟩
            have HB3 : Hid (Below (w.heap.size + 1) (w.alloc (.cells #[.int .i64 s, .slice (some ⟨b, off, none⟩) gs.length cd, .slice (some ⟨bp, offp, none⟩) ps.length ck] 40)) w3) := HB2.out.trans (hb3.mono (by omega))
            have hz3 : wo.heap.size < w3.heap.size := by have := hb3.size; omega
            have k0 := (hb3.cell (p := ⟨wo.heap.size, 0, none⟩) hz2).trans k0
            have k1 := (hb3.cell (p := ⟨wo.heap.size, 1, none⟩) hz2).trans k1
            obtain ⟨L1, hL1⟩ : ∃ M, M = putL L (xn : Int) := ⟨_, rfl⟩
            rw [← hL1] at hi3 hr3 ⊢
            have HI3 := Lib.hid hi3; clear hi3 hb3
            have HL1 := Lib.hid hL1; clear hL1
            go_wp2
            go_roundw
            case rel =>
              have HF : nbK gs x l (k + 1) = sN ||| 2 ^ xn := by
                rw [HN.out]; simp only [adjG, po, if_true]; simp only [beq_iff_eq, beq_eq_false_iff_ne] at p1 p2
                first | rw [if_pos p2, if_pos p1] | rw [if_pos p2, if_neg p1] | rw [if_neg p2, if_pos p1] | rw [if_neg p2, if_neg p1]
                all_goals simp [setN]
              refine ⟨k + 1, by omega, by go_num, ?_, HB3.out⟩
              rw [HF]
              have HE : pre ++ mem (sN ||| 2 ^ xn) = L1 := by rw [HL1.out, HL.out, put_mem _ HPRE2.out _ _ hx40]
              rw [HE]
              exact ⟨_, _, _, rfl, HI3.out, hr3, hm3, by omega⟩
            case measure => simp [intOf]; omega
          case true.false =>
            go_wp2_with fail
            refine (l8Open_c _ _ _ zn l hz64 hl _).mono ?_
            rintro e w2 ⟨rfl, hb2⟩
            have HB2 : Hid (Below (w.heap.size + 1) (w.alloc (.cells #[.int .i64 s, .slice (some ⟨b, off, none⟩) gs.length cd, .slice (some ⟨bp, offp, none⟩) ps.length ck] 40)) w2) := (HBo.out.alloc (by omega) _).trans (hb2.mono (by simp; omega))
            have HI2 : Hid (IC w2 (some ⟨bo, oo, none⟩) L) := (HO.out.later ((Below.refl _ _).alloc (Nat.le_refl _) _)).later hb2
            have hz2 : wo.heap.size < w2.heap.size := by have := hb2.size; simp at this; omega
            have k0 : w2.cell? ⟨wo.heap.size, 0, none⟩ = some (.int .i64 xn) := by rw [hb2.cell (p := ⟨wo.heap.size, 0, none⟩) (by simp)]; simp [go_sem]
            have k1 : w2.cell? ⟨wo.heap.size, 1, none⟩ = some (.int .i64 yn) := by rw [hb2.cell (p := ⟨wo.heap.size, 1, none⟩) (by simp)]; simp [go_sem]
            clear hb2 hc hf
            rw [po]
            go_wp2_with fail
            refine (l1PutB_c _ _ _ L (yn : Int) _ HI2.out (by omega) hr hmx).mono ?_
            rintro e w3 ⟨bo3, oo3, co3, rfl, hi3, hr3, hm3, hb3, hlo3⟩
            have HB3 : Hid (Below (w.heap.size + 1) (w.alloc (.cells #[.int .i64 s, .slice (some ⟨b, off, none⟩) gs.length cd, .slice (some ⟨bp, offp, none⟩) ps.length ck] 40)) w3) := HB2.out.trans (hb3.mono (by omega))
            have hz3 : wo.heap.size < w3.heap.size := by have := hb3.size; omega
            have k0 := (hb3.cell (p := ⟨wo.heap.size, 0, none⟩) hz2).trans k0
            have k1 := (hb3.cell (p := ⟨wo.heap.size, 1, none⟩) hz2).trans k1
            obtain ⟨L1, hL1⟩ : ∃ M, M = putL L (yn : Int) := ⟨_, rfl⟩
            rw [← hL1] at hi3 hr3 ⊢
            have HI3 := Lib.hid hi3; clear hi3 hb3
            have HL1 := Lib.hid hL1; clear hL1
            go_wp2
            go_roundw
            case rel =>
              have HF : nbK gs x l (k + 1) = sN ||| 2 ^ yn := by
                rw [HN.out]; simp only [adjG, po, if_true]; simp only [beq_iff_eq, beq_eq_false_iff_ne] at p1 p2
                first | rw [if_pos p2, if_pos p1] | rw [if_pos p2, if_neg p1] | rw [if_neg p2, if_pos p1] | rw [if_neg p2, if_neg p1]
                all_goals simp [setN]
              refine ⟨k + 1, by omega, by go_num, ?_, HB3.out⟩
              rw [HF]
              have HE : pre ++ mem (sN ||| 2 ^ yn) = L1 := by rw [HL1.out, HL.out, put_mem _ HPRE2.out _ _ hy40]
              rw [HE]
              exact ⟨_, _, _, rfl, HI3.out, hr3, hm3, by omega⟩
            case measure => simp [intOf]; omega
          case true.true =>
            go_wp2_with fail
            refine (l8Open_c _ _ _ zn l hz64 hl _).mono ?_
            rintro e w2 ⟨rfl, hb2⟩
            have HB2 : Hid (Below (w.heap.size + 1) (w.alloc (.cells #[.int .i64 s, .slice (some ⟨b, off, none⟩) gs.length cd, .slice (some ⟨bp, offp, none⟩) ps.length ck] 40)) w2) := (HBo.out.alloc (by omega) _).trans (hb2.mono (by simp; omega))
            have HI2 : Hid (IC w2 (some ⟨bo, oo, none⟩) L) := (HO.out.later ((Below.refl _ _).alloc (Nat.le_refl _) _)).later hb2
            have hz2 : wo.heap.size < w2.heap.size := by have := hb2.size; simp at this; omega
            have k0 : w2.cell? ⟨wo.heap.size, 0, none⟩ = some (.int .i64 xn) := by rw [hb2.cell (p := ⟨wo.heap.size, 0, none⟩) (by simp)]; simp [go_sem]
            have k1 : w2.cell? ⟨wo.heap.size, 1, none⟩ = some (.int .i64 yn) := by rw [hb2.cell (p := ⟨wo.heap.size, 1, none⟩) (by simp)]; simp [go_sem]
            clear hb2 hc hf
            rw [po]
            go_wp2_with fail
            refine (l1PutB_c _ _ _ L (yn : Int) _ HI2.out (by omega) hr hmx).mono ?_
            rintro e w3 ⟨bo3, oo3, co3, rfl, hi3, hr3, hm3, hb3, hlo3⟩
            have HB3 : Hid (Below (w.heap.size + 1) (w.alloc (.cells #[.int .i64 s, .slice (some ⟨b, off, none⟩) gs.length cd, .slice (some ⟨bp, offp, none⟩) ps.length ck] 40)) w3) := HB2.out.trans (hb3.mono (by omega))
            have hz3 : wo.heap.size < w3.heap.size := by have := hb3.size; omega
            have k0 := (hb3.cell (p := ⟨wo.heap.size, 0, none⟩) hz2).trans k0
            have k1 := (hb3.cell (p := ⟨wo.heap.size, 1, none⟩) hz2).trans k1
            obtain ⟨L1, hL1⟩ : ∃ M, M = putL L (yn : Int) := ⟨_, rfl⟩
            rw [← hL1] at hi3 hr3 ⊢
            have HI3 := Lib.hid hi3; clear hi3 hb3
            have HL1 := Lib.hid hL1; clear hL1
            have HE1 : Hid (L1 = pre ++ mem (sN ||| 2 ^ yn)) := by show _ = _; rw [HL1.out, HL.out, put_mem _ HPRE2.out _ _ hy40]
            have hL141 : L1.length ≤ 41 := by rw [HE1.out]; exact HML.out _
            go_wp2_with fail
            refine (l1PutB_c _ _ _ L1 (xn : Int) _ HI3.out (by omega) hr3 hm3).mono ?_
            rintro e w4 ⟨bo4, oo4, co4, rfl, hi4, hr4, hm4, hb4, hlo4⟩
            have HB4 : Hid (Below (w.heap.size + 1) (w.alloc (.cells #[.int .i64 s, .slice (some ⟨b, off, none⟩) gs.length cd, .slice (some ⟨bp, offp, none⟩) ps.length ck] 40)) w4) := HB3.out.trans (hb4.mono (by omega))
            have hz4 : wo.heap.size < w4.heap.size := by have := hb4.size; omega
            have k0 := (hb4.cell (p := ⟨wo.heap.size, 0, none⟩) hz3).trans k0
            have k1 := (hb4.cell (p := ⟨wo.heap.size, 1, none⟩) hz3).trans k1
            obtain ⟨L2, hL2⟩ : ∃ M, M = putL L1 (xn : Int) := ⟨_, rfl⟩
            rw [← hL2] at hi4 hr4 ⊢
            have HI4 := Lib.hid hi4; clear hi4 hb4
            have HL2 := Lib.hid hL2; clear hL2
            go_wp2
            go_roundw
            case rel =>
              have HF : nbK gs x l (k + 1) = (sN ||| 2 ^ yn) ||| 2 ^ xn := by
                rw [HN.out]; simp only [adjG, po, if_true]; simp only [beq_iff_eq, beq_eq_false_iff_ne] at p1 p2
                first | rw [if_pos p2, if_pos p1] | rw [if_pos p2, if_neg p1] | rw [if_neg p2, if_pos p1] | rw [if_neg p2, if_neg p1]
                all_goals simp [setN]
              refine ⟨k + 1, by omega, by go_num, ?_, HB4.out⟩
              rw [HF]
              have HE : pre ++ mem ((sN ||| 2 ^ yn) ||| 2 ^ xn) = L2 := by rw [HL2.out, HE1.out, put_mem _ HPRE2.out _ _ hx40]
              rw [HE]
              exact ⟨_, _, _, rfl, HI4.out, hr4, hm4, by omega⟩
            case measure => simp [intOf]; omega
      · obtain rfl : k = gs.length := by omega
        have HE : Hid (actsL ⟨s, gs, ps⟩ x l = L) := by show _ = _; rw [HA.out, HL.out, hsN]
        clear hsN
        go_wp2
        go_ret
        exact ⟨_, rfl, by rw [HE.out]; exact ⟨_, _, _, rfl, HO.out, hr, hmx, by omega⟩, HB.out⟩
theorem l8Acts_c (v : Value) (m : Wk) (x l : Nat) (w : World) (hm : WkAt w v m) (ok : WkOk m) (hx : (x : Int) < m.size) (hl : l < 64) :
    Calls Try.prog 101 #[v, .int .i64 x, .int .i64 l] w fun e w' => ∃ u, e = .returned u ∧ SL w' u (actsL m x l) ∧ Below w.heap.size w w' :=
  (l8ActsB_c v m x l w hm ok hx hl).mono fun _ _ ⟨u, h1, ⟨b, off, c, h2, h3, h4, h5, _⟩, h6⟩ => ⟨u, h1, ⟨b, off, c, h2, h3, h4, h5⟩, h6⟩
end Go.Proofs.Ytldogbahbjompaa
