/- Contract of l8Acts. Contracts of slices.Concat (two lists) and impl.acts. Contracts of impl.acts, impl.behind, spec.l8Do. ActsAt. DoAct. Plans: impl.runPlan. -/
import Derived.Test.YtmilpahggceemaaKpFp5
import Derived.Deep.QuietTactic
import Derived.BigQuiet
import Derived.OwnWalk
set_option linter.unusedVariables false
set_option linter.unusedSimpArgs false
namespace Go.Proofs.Ytmilpahggceemaa
open Go.RowKit Go.KD
attribute [local go_sem] later_cell later_frozen
theorem heap2b (w : World) (a o p : Obj) : (((w.alloc a).alloc o).alloc p).heap[w.heap.size + 1]? = some o := (heap_alloc_old _ _ (by simp)).trans (heap_alloc2_new w a o)
theorem own_some {w : World} {base : Nat} {e : TypeId} {size n : Nat} {v : Value} {xs : List Value} (h : w.ownsRow base e size v n xs) (hn : 0 < n) : ∃ g c, v = .slice (some ⟨g, 0, none⟩) n c ∧ n ≤ c ∧ c ≤ maxLen := by
  rcases h.2 with ⟨_, h0⟩ | ⟨g, c, cur, hv, _, _, hc, hm, _⟩
  · omega
  · exact ⟨g, c, hv, hc, hm⟩
def SLB (base : Nat) (w : World) (v : Value) (L : List Int) : Prop := ∃ b off c, v = .slice (some ⟨b, off, none⟩) L.length c ∧ IC w (some ⟨b, off, none⟩) L ∧ L.length ≤ c ∧ c ≤ maxLen ∧ base ≤ b
def SL (w : World) (v : Value) (L : List Int) : Prop := ∃ b off c, v = .slice (some ⟨b, off, none⟩) L.length c ∧ IC w (some ⟨b, off, none⟩) L ∧ L.length ≤ c ∧ c ≤ maxLen
theorem SL_nil (base : Nat) (w : World) (b off c : Nat) (h : c ≤ maxLen) (hb : base ≤ b) : SLB base w (.slice (some ⟨b, off, none⟩) 0 c) [] := ⟨b, off, c, rfl, fun j hj => absurd hj (Nat.not_lt_zero j), Nat.zero_le _, h, hb⟩
set_option maxRecDepth 100000 in
set_option maxHeartbeats 8000000 in
theorem l8ActsB_c (v : Value) (m : Wk) (x l : Nat) (w : World) (hm : WkAt w v m) (ok : WkOk m) (hx : (x : Int) < m.size) (hl : l < 64) :
    Calls Try.prog 177 #[v, .int .i64 x, .int .i64 l] w fun e w' => ∃ u, e = .returned u ∧ SLB w.heap.size w' u (actsL m x l) ∧ Below w.heap.size w w' := by
  have hM := hm
  obtain ⟨⟨ad, cd, ak, ck, rfl, hd, hk'⟩, nd, nk⟩ := hM
  obtain ⟨i0, ji, jz0, jz1, jz2⟩ := info_parts infoI
  have hng := ok.ng
  have hnp : x < m.pulls.length := by have := ok.np; omega
  have hpl := ok.pl x hnp
  obtain ⟨s, gs, ps⟩ := m
  dsimp only at *
  have OK := Lib.hid ok; clear ok
  have hs2 : s ≤ 12 := OK.out.s2
  have hx12 : x < 12 := by omega
  obtain ⟨bp, offp, pv, rfl, HX, hbs, ep⟩ := hk'.at x hnp
  rw [HX.out] at hpl
  have hp0 : 0 ≤ pv := (setB_true.1 hpl).1
  clear hpl
  obtain ⟨pre, hpre⟩ : ∃ pre : List Int, pre = if pv = 0 then [] else [-1] := ⟨_, rfl⟩
  have hpre2 : pre = [] ∨ pre = [-1] := by rw [hpre]; split <;> simp
  have hprel : pre.length ≤ 1 := by rcases hpre2 with h | h <;> simp [h]
  have HA : Hid (actsL ⟨s, gs, ps⟩ x l = pre ++ mem (nbK gs x l gs.length)) := by show _ = _; rw [hpre]; simp [actsL, HX.out]
  have HPRE := Lib.hid hpre; clear hpre
  have HPRE2 := Lib.hid hpre2; clear hpre2
  have hml : ∀ t, (pre ++ mem t).length ≤ 41 := by intro t; have := memK_len t 40; rw [List.length_append, mem_eq]; omega
  have HML := Lib.hid hml; clear hml
  have H0 : Hid (pre ++ mem (nbK gs x l 0) = pre) := by show _ = _; simp [nbK, mem, memN]
  cases p0 : decide (0 < pv)
  · have HE0 : Hid (pre = []) := by show _ = _; rw [HPRE.out, if_pos]; simp at p0; omega
    go_enter Try.func177, Try.ntmps177
    go_wp2
    go_loopw [7, 8] (fun u i wr => ∃ k : Nat, k ≤ gs.length ∧ i = .int .i64 k ∧ Hid (SLB w.heap.size wr u (pre ++ mem (nbK gs x l k))) ∧ Below (w.heap.size + 1) (w.alloc (.cells #[.int .i64 s, .slice ad gs.length cd, .slice (some ⟨bp, offp, none⟩) ps.length ck] 36)) wr) (fun _ i _ => gs.length - (intOf i).toNat)
    case atStart => exact ⟨0, Nat.zero_le _, rfl, by rw [H0.out, HE0.out]; exact SL_nil _ _ _ _ _ (Nat.zero_le _) (by omega), (Below.refl _ _).alloc (by simp) _⟩
    case round =>
      obtain ⟨wo, rfl⟩ : ∃ wo : World, wo = wr := ⟨_, rfl⟩
      obtain ⟨k, hkl, rfl, HS, hb⟩ := hrel
      obtain ⟨hc, hf, hz⟩ := bcell3 hb
      simp only [World.size_alloc] at hz
      have hz1 : w.heap.size < wo.heap.size := by omega
      have HB : Hid (Below w.heap.size w wo) := (by (repeat (first | exact Below.refl _ _ | apply Below.drew | apply below_drewN | (refine Below.setCell ?_ (by first | omega | (simp; done) | (simp; omega) | (dsimp only; omega)) _) | (refine Below.alloc ?_ (by first | omega | (simp; done) | (simp; omega) | (dsimp only; omega)) _))) : Below w.heap.size w (w.alloc _)).trans (hb.mono (by omega))
      have HBo := Lib.hid hb
      obtain ⟨sN, hsN⟩ : ∃ sN, sN = nbK gs x l k := ⟨_, rfl⟩
      have hL41 := HML.out sN
      obtain ⟨L, hL⟩ : ∃ L, L = pre ++ mem sN := ⟨_, rfl⟩
      rw [← hsN, ← hL] at HS
      rw [← hL] at hL41
      have HL := Lib.hid hL; clear hL
      obtain ⟨bo, oo, co, rfl, ho, hr, hmx, hlo⟩ := HS.out
      have HO := Lib.hid ho; clear ho
      by_cases hlt : k < gs.length
      · obtain ⟨b, off, x0, y0, z0, u0, rfl, HX2, hbs2, e0, e1, e2, e3⟩ := (hd.later HB.out).at k hlt
        obtain ⟨f1, f2, f3, f4, f5, f6, f7⟩ := gate_facts OK.out hlt HX2.out
        dsimp only at f3
        obtain ⟨xn, rfl⟩ := Int.eq_ofNat_of_zero_le f1
        obtain ⟨yn, rfl⟩ := Int.eq_ofNat_of_zero_le (show 0 ≤ y0 by omega)
        obtain ⟨zn, rfl⟩ := Int.eq_ofNat_of_zero_le f4
        have hx40 : xn < 40 := by omega
        have hy40 : yn < 40 := by omega
        have hz64 : zn < 64 := by omega
        have HN : Hid (nbK gs x l (k + 1) = adjG x l sN ((xn : Int), (yn : Int), (zn : Int), u0)) := by show _ = _; rw [nb_step hlt, HX2.out, hsN]
        clear hsN
        cases po : openB ((xn : Int), (yn : Int), (zn : Int), u0) l
        · have HF : Hid (nbK gs x l (k + 1) = sN) := by show _ = _; rw [HN.out]; simp [adjG, po]
          go_wp2_with fail
          refine (l8Open_c _ _ _ zn l hz64 hl _).mono ?_
          rintro e w2 ⟨rfl, hb2⟩
          have HB2 : Hid (Below (w.heap.size + 1) (w.alloc (.cells #[.int .i64 s, .slice (some ⟨b, off, none⟩) gs.length cd, .slice (some ⟨bp, offp, none⟩) ps.length ck] 36)) w2) := (HBo.out.alloc (by omega) _).trans (hb2.mono (by simp; omega))
          have HI2 : Hid (IC w2 (some ⟨bo, oo, none⟩) L) := (HO.out.later ((Below.refl _ _).alloc (Nat.le_refl _) _)).later hb2
          have hz2 : wo.heap.size < w2.heap.size := by have := hb2.size; simp at this; omega
          have k0 : w2.cell? ⟨wo.heap.size, 0, none⟩ = some (.int .i64 xn) := by rw [hb2.cell (p := ⟨wo.heap.size, 0, none⟩) (by simp)]; simp [go_sem]
          have k1 : w2.cell? ⟨wo.heap.size, 1, none⟩ = some (.int .i64 yn) := by rw [hb2.cell (p := ⟨wo.heap.size, 1, none⟩) (by simp)]; simp [go_sem]
          clear hb2 hc hf
          rw [po]
          go_wp2
          go_roundw
          case rel => exact ⟨k + 1, by omega, by go_num, by rw [HF.out, ← HL.out]; exact ⟨_, _, _, rfl, HI2.out, hr, hmx, by omega⟩, HB2.out⟩
          case measure => simp [intOf]; omega
        · cases p1 : ((xn : Int) == (x : Int)) <;> cases p2 : ((yn : Int) == (x : Int))
          case false.false =>
            go_wp2_with fail
            refine (l8Open_c _ _ _ zn l hz64 hl _).mono ?_
            rintro e w2 ⟨rfl, hb2⟩
            have HB2 : Hid (Below (w.heap.size + 1) (w.alloc (.cells #[.int .i64 s, .slice (some ⟨b, off, none⟩) gs.length cd, .slice (some ⟨bp, offp, none⟩) ps.length ck] 36)) w2) := (HBo.out.alloc (by omega) _).trans (hb2.mono (by simp; omega))
            have HI2 : Hid (IC w2 (some ⟨bo, oo, none⟩) L) := (HO.out.later ((Below.refl _ _).alloc (Nat.le_refl _) _)).later hb2
            have hz2 : wo.heap.size < w2.heap.size := by have := hb2.size; simp at this; omega
            have k0 : w2.cell? ⟨wo.heap.size, 0, none⟩ = some (.int .i64 xn) := by rw [hb2.cell (p := ⟨wo.heap.size, 0, none⟩) (by simp)]; simp [go_sem]
            have k1 : w2.cell? ⟨wo.heap.size, 1, none⟩ = some (.int .i64 yn) := by rw [hb2.cell (p := ⟨wo.heap.size, 1, none⟩) (by simp)]; simp [go_sem]
            clear hb2 hc hf
            rw [po]
            go_wp2
            go_roundw
            case rel =>
              have HF : nbK gs x l (k + 1) = sN := by
                rw [HN.out]; simp only [adjG, po, if_true]; simp only [beq_iff_eq, beq_eq_false_iff_ne] at p1 p2
                first | rw [if_pos p2, if_pos p1] | rw [if_pos p2, if_neg p1] | rw [if_neg p2, if_pos p1] | rw [if_neg p2, if_neg p1]
                all_goals simp [setN]
              refine ⟨k + 1, by omega, by go_num, ?_, HB2.out⟩
              rw [HF]
              have HE : pre ++ mem (sN) = L := by exact HL.out.symm
              rw [HE]
              exact ⟨_, _, _, rfl, HI2.out, hr, hmx, by omega⟩
            case measure => simp [intOf]; omega
          case false.true =>
            go_wp2_with fail
            refine (l8Open_c _ _ _ zn l hz64 hl _).mono ?_
            rintro e w2 ⟨rfl, hb2⟩
            have HB2 : Hid (Below (w.heap.size + 1) (w.alloc (.cells #[.int .i64 s, .slice (some ⟨b, off, none⟩) gs.length cd, .slice (some ⟨bp, offp, none⟩) ps.length ck] 36)) w2) := (HBo.out.alloc (by omega) _).trans (hb2.mono (by simp; omega))
            have HI2 : Hid (IC w2 (some ⟨bo, oo, none⟩) L) := (HO.out.later ((Below.refl _ _).alloc (Nat.le_refl _) _)).later hb2
            have hz2 : wo.heap.size < w2.heap.size := by have := hb2.size; simp at this; omega
            have k0 : w2.cell? ⟨wo.heap.size, 0, none⟩ = some (.int .i64 xn) := by rw [hb2.cell (p := ⟨wo.heap.size, 0, none⟩) (by simp)]; simp [go_sem]
            have k1 : w2.cell? ⟨wo.heap.size, 1, none⟩ = some (.int .i64 yn) := by rw [hb2.cell (p := ⟨wo.heap.size, 1, none⟩) (by simp)]; simp [go_sem]
            clear hb2 hc hf
            rw [po]
            have h41 := hL41
            go_wp2_with fail
            refine (l1PutB_c _ _ _ L (xn : Int) _ HI2.out (by omega) hr hmx).mono ?_
            rintro e w3 ⟨bo3, oo3, co3, rfl, hi3, hr3, hm3, hb3, hlo3⟩
            have HB3 : Hid (Below (w.heap.size + 1) (w.alloc (.cells #[.int .i64 s, .slice (some ⟨b, off, none⟩) gs.length cd, .slice (some ⟨bp, offp, none⟩) ps.length ck] 36)) w3) := HB2.out.trans (hb3.mono (by omega))
            have hz3 : wo.heap.size < w3.heap.size := by have := hb3.size; omega
            have k0 := (hb3.cell (p := ⟨wo.heap.size, 0, none⟩) hz2).trans k0
            have k1 := (hb3.cell (p := ⟨wo.heap.size, 1, none⟩) hz2).trans k1
            obtain ⟨L1, hL1⟩ : ∃ M, M = putL L (xn : Int) := ⟨_, rfl⟩
            rw [← hL1] at hi3 hr3 ⊢
            have HI3 := Lib.hid hi3; clear hi3 hb3
            have HL1 := Lib.hid hL1; clear hL1
            go_wp2
            go_roundw
            case rel =>
              have HF : nbK gs x l (k + 1) = sN ||| 2 ^ xn := by
                rw [HN.out]; simp only [adjG, po, if_true]; simp only [beq_iff_eq, beq_eq_false_iff_ne] at p1 p2
                first | rw [if_pos p2, if_pos p1] | rw [if_pos p2, if_neg p1] | rw [if_neg p2, if_pos p1] | rw [if_neg p2, if_neg p1]
                all_goals simp [setN]
              refine ⟨k + 1, by omega, by go_num, ?_, HB3.out⟩
              rw [HF]
              have HE : pre ++ mem (sN ||| 2 ^ xn) = L1 := by rw [HL1.out, HL.out, put_mem _ HPRE2.out _ _ hx40]
              rw [HE]
              exact ⟨_, _, _, rfl, HI3.out, hr3, hm3, by omega⟩
            case measure => simp [intOf]; omega
          case true.false =>
            go_wp2_with fail
            refine (l8Open_c _ _ _ zn l hz64 hl _).mono ?_
            rintro e w2 ⟨rfl, hb2⟩
            have HB2 : Hid (Below (w.heap.size + 1) (w.alloc (.cells #[.int .i64 s, .slice (some ⟨b, off, none⟩) gs.length cd, .slice (some ⟨bp, offp, none⟩) ps.length ck] 36)) w2) := (HBo.out.alloc (by omega) _).trans (hb2.mono (by simp; omega))
            have HI2 : Hid (IC w2 (some ⟨bo, oo, none⟩) L) := (HO.out.later ((Below.refl _ _).alloc (Nat.le_refl _) _)).later hb2
            have hz2 : wo.heap.size < w2.heap.size := by have := hb2.size; simp at this; omega
            have k0 : w2.cell? ⟨wo.heap.size, 0, none⟩ = some (.int .i64 xn) := by rw [hb2.cell (p := ⟨wo.heap.size, 0, none⟩) (by simp)]; simp [go_sem]
            have k1 : w2.cell? ⟨wo.heap.size, 1, none⟩ = some (.int .i64 yn) := by rw [hb2.cell (p := ⟨wo.heap.size, 1, none⟩) (by simp)]; simp [go_sem]
            clear hb2 hc hf
            rw [po]
            go_wp2_with fail
            refine (l1PutB_c _ _ _ L (yn : Int) _ HI2.out (by omega) hr hmx).mono ?_
            rintro e w3 ⟨bo3, oo3, co3, rfl, hi3, hr3, hm3, hb3, hlo3⟩
            have HB3 : Hid (Below (w.heap.size + 1) (w.alloc (.cells #[.int .i64 s, .slice (some ⟨b, off, none⟩) gs.length cd, .slice (some ⟨bp, offp, none⟩) ps.length ck] 36)) w3) := HB2.out.trans (hb3.mono (by omega))
            have hz3 : wo.heap.size < w3.heap.size := by have := hb3.size; omega
            have k0 := (hb3.cell (p := ⟨wo.heap.size, 0, none⟩) hz2).trans k0
            have k1 := (hb3.cell (p := ⟨wo.heap.size, 1, none⟩) hz2).trans k1
            obtain ⟨L1, hL1⟩ : ∃ M, M = putL L (yn : Int) := ⟨_, rfl⟩
            rw [← hL1] at hi3 hr3 ⊢
            have HI3 := Lib.hid hi3; clear hi3 hb3
            have HL1 := Lib.hid hL1; clear hL1
            go_wp2
            go_roundw
            case rel =>
              have HF : nbK gs x l (k + 1) = sN ||| 2 ^ yn := by
                rw [HN.out]; simp only [adjG, po, if_true]; simp only [beq_iff_eq, beq_eq_false_iff_ne] at p1 p2
                first | rw [if_pos p2, if_pos p1] | rw [if_pos p2, if_neg p1] | rw [if_neg p2, if_pos p1] | rw [if_neg p2, if_neg p1]
                all_goals simp [setN]
              refine ⟨k + 1, by omega, by go_num, ?_, HB3.out⟩
              rw [HF]
              have HE : pre ++ mem (sN ||| 2 ^ yn) = L1 := by rw [HL1.out, HL.out, put_mem _ HPRE2.out _ _ hy40]
              rw [HE]
              exact ⟨_, _, _, rfl, HI3.out, hr3, hm3, by omega⟩
            case measure => simp [intOf]; omega
          case true.true =>
            go_wp2_with fail
            refine (l8Open_c _ _ _ zn l hz64 hl _).mono ?_
            rintro e w2 ⟨rfl, hb2⟩
            have HB2 : Hid (Below (w.heap.size + 1) (w.alloc (.cells #[.int .i64 s, .slice (some ⟨b, off, none⟩) gs.length cd, .slice (some ⟨bp, offp, none⟩) ps.length ck] 36)) w2) := (HBo.out.alloc (by omega) _).trans (hb2.mono (by simp; omega))
            have HI2 : Hid (IC w2 (some ⟨bo, oo, none⟩) L) := (HO.out.later ((Below.refl _ _).alloc (Nat.le_refl _) _)).later hb2
            have hz2 : wo.heap.size < w2.heap.size := by have := hb2.size; simp at this; omega
            have k0 : w2.cell? ⟨wo.heap.size, 0, none⟩ = some (.int .i64 xn) := by rw [hb2.cell (p := ⟨wo.heap.size, 0, none⟩) (by simp)]; simp [go_sem]
            have k1 : w2.cell? ⟨wo.heap.size, 1, none⟩ = some (.int .i64 yn) := by rw [hb2.cell (p := ⟨wo.heap.size, 1, none⟩) (by simp)]; simp [go_sem]
            clear hb2 hc hf
            rw [po]
            go_wp2_with fail
            refine (l1PutB_c _ _ _ L (yn : Int) _ HI2.out (by omega) hr hmx).mono ?_
            rintro e w3 ⟨bo3, oo3, co3, rfl, hi3, hr3, hm3, hb3, hlo3⟩
            have HB3 : Hid (Below (w.heap.size + 1) (w.alloc (.cells #[.int .i64 s, .slice (some ⟨b, off, none⟩) gs.length cd, .slice (some ⟨bp, offp, none⟩) ps.length ck] 36)) w3) := HB2.out.trans (hb3.mono (by omega))
            have hz3 : wo.heap.size < w3.heap.size := by have := hb3.size; omega
            have k0 := (hb3.cell (p := ⟨wo.heap.size, 0, none⟩) hz2).trans k0
            have k1 := (hb3.cell (p := ⟨wo.heap.size, 1, none⟩) hz2).trans k1
            obtain ⟨L1, hL1⟩ : ∃ M, M = putL L (yn : Int) := ⟨_, rfl⟩
            rw [← hL1] at hi3 hr3 ⊢
            have HI3 := Lib.hid hi3; clear hi3 hb3
            have HL1 := Lib.hid hL1; clear hL1
            have HE1 : Hid (L1 = pre ++ mem (sN ||| 2 ^ yn)) := by show _ = _; rw [HL1.out, HL.out, put_mem _ HPRE2.out _ _ hy40]
            have hL141 : L1.length ≤ 41 := by rw [HE1.out]; exact HML.out _
            go_wp2_with fail
            refine (l1PutB_c _ _ _ L1 (xn : Int) _ HI3.out (by omega) hr3 hm3).mono ?_
            rintro e w4 ⟨bo4, oo4, co4, rfl, hi4, hr4, hm4, hb4, hlo4⟩
            have HB4 : Hid (Below (w.heap.size + 1) (w.alloc (.cells #[.int .i64 s, .slice (some ⟨b, off, none⟩) gs.length cd, .slice (some ⟨bp, offp, none⟩) ps.length ck] 36)) w4) := HB3.out.trans (hb4.mono (by omega))
            have hz4 : wo.heap.size < w4.heap.size := by have := hb4.size; omega
            have k0 := (hb4.cell (p := ⟨wo.heap.size, 0, none⟩) hz3).trans k0
            have k1 := (hb4.cell (p := ⟨wo.heap.size, 1, none⟩) hz3).trans k1
            obtain ⟨L2, hL2⟩ : ∃ M, M = putL L1 (xn : Int) := ⟨_, rfl⟩
            rw [← hL2] at hi4 hr4 ⊢
            have HI4 := Lib.hid hi4; clear hi4 hb4
            have HL2 := Lib.hid hL2; clear hL2
            go_wp2
            go_roundw
            case rel =>
              have HF : nbK gs x l (k + 1) = (sN ||| 2 ^ yn) ||| 2 ^ xn := by
                rw [HN.out]; simp only [adjG, po, if_true]; simp only [beq_iff_eq, beq_eq_false_iff_ne] at p1 p2
                first | rw [if_pos p2, if_pos p1] | rw [if_pos p2, if_neg p1] | rw [if_neg p2, if_pos p1] | rw [if_neg p2, if_neg p1]
                all_goals simp [setN]
              refine ⟨k + 1, by omega, by go_num, ?_, HB4.out⟩
              rw [HF]
              have HE : pre ++ mem ((sN ||| 2 ^ yn) ||| 2 ^ xn) = L2 := by rw [HL2.out, HE1.out, put_mem _ HPRE2.out _ _ hx40]
              rw [HE]
              exact ⟨_, _, _, rfl, HI4.out, hr4, hm4, by omega⟩
            case measure => simp [intOf]; omega
      · obtain rfl : k = gs.length := by omega
        have HE : Hid (actsL ⟨s, gs, ps⟩ x l = L) := by show _ = _; rw [HA.out, HL.out, hsN]
        clear hsN
        go_wp2
        go_ret
        exact ⟨_, rfl, by rw [HE.out]; exact ⟨_, _, _, rfl, HO.out, hr, hmx, by omega⟩, HB.out⟩
  · have HE0 : Hid (pre = [-1]) := by show _ = _; rw [HPRE.out, if_neg]; simp at p0; omega
    go_enter Try.func177, Try.ntmps177
    go_wp2_with (at_builtin; refine wpList_append_own _ rfl _ _ 24 rfl (w.heap.size + 1) 3 i0 (.int .i64 0) 1 8 Try.underlying24 ji jz0 jz1 jz2 rfl (by decide) _ 0 [] rfl (own_empty (heap2b _ _ _ _) (by simp)) ⟨w.heap.size + 2, 0, none⟩ 1 1 [.int .i64 (-1)] rfl rfl ?_ ?_ ?_ ?_ ?_ ?_; (intro j u hu; rcases j with _ | j; (simp at hu; subst hu; simp [go_sem, Addr.add]); (simp at hu)); (simp [Value.oneCell']); (unfold maxLen; omega); omega; (simp; try omega); intro v1 w1 hown1 hgrow1 _)
    have HB1 : Hid (Below (w.heap.size + 1) (w.alloc (.cells #[.int .i64 s, .slice ad gs.length cd, .slice (some ⟨bp, offp, none⟩) ps.length ck] 36)) w1) := ((((Below.refl _ _).alloc (by simp) _).alloc (by simp; try omega) _).grown hgrow1 (by simp; try omega) (fun g hg => by cases hg; simp))
    have HS1 : Hid (SLB w.heap.size w1 v1 pre) := by
      rw [HE0.out]
      obtain ⟨g, c, rfl, hc, hm⟩ := own_some (by simpa using hown1) (by simp)
      have ho1 : w1.ownsRow (w.heap.size + 1) 3 1 (.slice (some ⟨g, 0, none⟩) 1 c) [(-1 : Int)].length (ints [-1]) := by simpa [ints] using hown1
      obtain ⟨a', c', he, _, hi⟩ := (Own.of ho1).ic
      cases he
      exact ⟨g, 0, c, rfl, hi, hc, hm, by have := own_block_lo ho1 (g := g) rfl; omega⟩
    clear hown1 hgrow1
    go_wp2
    go_loopw [7, 8] (fun u i wr => ∃ k : Nat, k ≤ gs.length ∧ i = .int .i64 k ∧ Hid (SLB w.heap.size wr u (pre ++ mem (nbK gs x l k))) ∧ Below (w.heap.size + 1) (w.alloc (.cells #[.int .i64 s, .slice ad gs.length cd, .slice (some ⟨bp, offp, none⟩) ps.length ck] 36)) wr) (fun _ i _ => gs.length - (intOf i).toNat)
    case atStart => exact ⟨0, Nat.zero_le _, rfl, by rw [H0.out]; exact HS1.out, HB1.out⟩
    case round =>
      obtain ⟨wo, rfl⟩ : ∃ wo : World, wo = wr := ⟨_, rfl⟩
      obtain ⟨k, hkl, rfl, HS, hb⟩ := hrel
      obtain ⟨hc, hf, hz⟩ := bcell3 hb
      simp only [World.size_alloc] at hz
      have hz1 : w.heap.size < wo.heap.size := by omega
      have HB : Hid (Below w.heap.size w wo) := (by (repeat (first | exact Below.refl _ _ | apply Below.drew | apply below_drewN | (refine Below.setCell ?_ (by first | omega | (simp; done) | (simp; omega) | (dsimp only; omega)) _) | (refine Below.alloc ?_ (by first | omega | (simp; done) | (simp; omega) | (dsimp only; omega)) _))) : Below w.heap.size w (w.alloc _)).trans (hb.mono (by omega))
      have HBo := Lib.hid hb
      obtain ⟨sN, hsN⟩ : ∃ sN, sN = nbK gs x l k := ⟨_, rfl⟩
      have hL41 := HML.out sN
      obtain ⟨L, hL⟩ : ∃ L, L = pre ++ mem sN := ⟨_, rfl⟩
      rw [← hsN, ← hL] at HS
      rw [← hL] at hL41
      have HL := Lib.hid hL; clear hL
      obtain ⟨bo, oo, co, rfl, ho, hr, hmx, hlo⟩ := HS.out
      have HO := Lib.hid ho; clear ho
      by_cases hlt : k < gs.length
      · obtain ⟨b, off, x0, y0, z0, u0, rfl, HX2, hbs2, e0, e1, e2, e3⟩ := (hd.later HB.out).at k hlt
        obtain ⟨f1, f2, f3, f4, f5, f6, f7⟩ := gate_facts OK.out hlt HX2.out
        dsimp only at f3
        obtain ⟨xn, rfl⟩ := Int.eq_ofNat_of_zero_le f1
        obtain ⟨yn, rfl⟩ := Int.eq_ofNat_of_zero_le (show 0 ≤ y0 by omega)
        obtain ⟨zn, rfl⟩ := Int.eq_ofNat_of_zero_le f4
        have hx40 : xn < 40 := by omega
        have hy40 : yn < 40 := by omega
        have hz64 : zn < 64 := by omega
        have HN : Hid (nbK gs x l (k + 1) = adjG x l sN ((xn : Int), (yn : Int), (zn : Int), u0)) := by show _ = _; rw [nb_step hlt, HX2.out, hsN]
        clear hsN
        cases po : openB ((xn : Int), (yn : Int), (zn : Int), u0) l
        · have HF : Hid (nbK gs x l (k + 1) = sN) := by show _ = _; rw [HN.out]; simp [adjG, po]
          go_wp2_with fail
          refine (l8Open_c _ _ _ zn l hz64 hl _).mono ?_
          rintro e w2 ⟨rfl, hb2⟩
          have HB2 : Hid (Below (w.heap.size + 1) (w.alloc (.cells #[.int .i64 s, .slice (some ⟨b, off, none⟩) gs.length cd, .slice (some ⟨bp, offp, none⟩) ps.length ck] 36)) w2) := (HBo.out.alloc (by omega) _).trans (hb2.mono (by simp; omega))
          have HI2 : Hid (IC w2 (some ⟨bo, oo, none⟩) L) := (HO.out.later ((Below.refl _ _).alloc (Nat.le_refl _) _)).later hb2
          have hz2 : wo.heap.size < w2.heap.size := by have := hb2.size; simp at this; omega
          have k0 : w2.cell? ⟨wo.heap.size, 0, none⟩ = some (.int .i64 xn) := by rw [hb2.cell (p := ⟨wo.heap.size, 0, none⟩) (by simp)]; simp [go_sem]
          have k1 : w2.cell? ⟨wo.heap.size, 1, none⟩ = some (.int .i64 yn) := by rw [hb2.cell (p := ⟨wo.heap.size, 1, none⟩) (by simp)]; simp [go_sem]
          clear hb2 hc hf
          rw [po]
          go_wp2
          go_roundw
          case rel => exact ⟨k + 1, by omega, by go_num, by rw [HF.out, ← HL.out]; exact ⟨_, _, _, rfl, HI2.out, hr, hmx, by omega⟩, HB2.out⟩
          case measure => simp [intOf]; omega
        · cases p1 : ((xn : Int) == (x : Int)) <;> cases p2 : ((yn : Int) == (x : Int))
          case false.false =>
            go_wp2_with fail
            refine (l8Open_c _ _ _ zn l hz64 hl _).mono ?_
            rintro e w2 ⟨rfl, hb2⟩
            have HB2 : Hid (Below (w.heap.size + 1) (w.alloc (.cells #[.int .i64 s, .slice (some ⟨b, off, none⟩) gs.length cd, .slice (some ⟨bp, offp, none⟩) ps.length ck] 36)) w2) := (HBo.out.alloc (by omega) _).trans (hb2.mono (by simp; omega))
            have HI2 : Hid (IC w2 (some ⟨bo, oo, none⟩) L) := (HO.out.later ((Below.refl _ _).alloc (Nat.le_refl _) _)).later hb2
            have hz2 : wo.heap.size < w2.heap.size := by have := hb2.size; simp at this; omega
            have k0 : w2.cell? ⟨wo.heap.size, 0, none⟩ = some (.int .i64 xn) := by rw [hb2.cell (p := ⟨wo.heap.size, 0, none⟩) (by simp)]; simp [go_sem]
            have k1 : w2.cell? ⟨wo.heap.size, 1, none⟩ = some (.int .i64 yn) := by rw [hb2.cell (p := ⟨wo.heap.size, 1, none⟩) (by simp)]; simp [go_sem]
            clear hb2 hc hf
            rw [po]
            go_wp2
            go_roundw
            case rel =>
              have HF : nbK gs x l (k + 1) = sN := by
                rw [HN.out]; simp only [adjG, po, if_true]; simp only [beq_iff_eq, beq_eq_false_iff_ne] at p1 p2
                first | rw [if_pos p2, if_pos p1] | rw [if_pos p2, if_neg p1] | rw [if_neg p2, if_pos p1] | rw [if_neg p2, if_neg p1]
                all_goals simp [setN]
              refine ⟨k + 1, by omega, by go_num, ?_, HB2.out⟩
              rw [HF]
              have HE : pre ++ mem (sN) = L := by exact HL.out.symm
              rw [HE]
              exact ⟨_, _, _, rfl, HI2.out, hr, hmx, by omega⟩
            case measure => simp [intOf]; omega
          case false.true =>
            go_wp2_with fail
            refine (l8Open_c _ _ _ zn l hz64 hl _).mono ?_
            rintro e w2 ⟨rfl, hb2⟩
            have HB2 : Hid (Below (w.heap.size + 1) (w.alloc (.cells #[.int .i64 s, .slice (some ⟨b, off, none⟩) gs.length cd, .slice (some ⟨bp, offp, none⟩) ps.length ck] 36)) w2) := (HBo.out.alloc (by omega) _).trans (hb2.mono (by simp; omega))
            have HI2 : Hid (IC w2 (some ⟨bo, oo, none⟩) L) := (HO.out.later ((Below.refl _ _).alloc (Nat.le_refl _) _)).later hb2
            have hz2 : wo.heap.size < w2.heap.size := by have := hb2.size; simp at this; omega
            have k0 : w2.cell? ⟨wo.heap.size, 0, none⟩ = some (.int .i64 xn) := by rw [hb2.cell (p := ⟨wo.heap.size, 0, none⟩) (by simp)]; simp [go_sem]
            have k1 : w2.cell? ⟨wo.heap.size, 1, none⟩ = some (.int .i64 yn) := by rw [hb2.cell (p := ⟨wo.heap.size, 1, none⟩) (by simp)]; simp [go_sem]
            clear hb2 hc hf
            rw [po]
            have h41 := hL41
            go_wp2_with fail
            refine (l1PutB_c _ _ _ L (xn : Int) _ HI2.out (by omega) hr hmx).mono ?_
            rintro e w3 ⟨bo3, oo3, co3, rfl, hi3, hr3, hm3, hb3, hlo3⟩
            have HB3 : Hid (Below (w.heap.size + 1) (w.alloc (.cells #[.int .i64 s, .slice (some ⟨b, off, none⟩) gs.length cd, .slice (some ⟨bp, offp, none⟩) ps.length ck] 36)) w3) := HB2.out.trans (hb3.mono (by omega))
            have hz3 : wo.heap.size < w3.heap.size := by have := hb3.size; omega
            have k0 := (hb3.cell (p := ⟨wo.heap.size, 0, none⟩) hz2).trans k0
            have k1 := (hb3.cell (p := ⟨wo.heap.size, 1, none⟩) hz2).trans k1
            obtain ⟨L1, hL1⟩ : ∃ M, M = putL L (xn : Int) := ⟨_, rfl⟩
            rw [← hL1] at hi3 hr3 ⊢
            have HI3 := Lib.hid hi3; clear hi3 hb3
            have HL1 := Lib.hid hL1; clear hL1
            go_wp2
            go_roundw
            case rel =>
              have HF : nbK gs x l (k + 1) = sN ||| 2 ^ xn := by
                rw [HN.out]; simp only [adjG, po, if_true]; simp only [beq_iff_eq, beq_eq_false_iff_ne] at p1 p2
                first | rw [if_pos p2, if_pos p1] | rw [if_pos p2, if_neg p1] | rw [if_neg p2, if_pos p1] | rw [if_neg p2, if_neg p1]
                all_goals simp [setN]
              refine ⟨k + 1, by omega, by go_num, ?_, HB3.out⟩
              rw [HF]
              have HE : pre ++ mem (sN ||| 2 ^ xn) = L1 := by rw [HL1.out, HL.out, put_mem _ HPRE2.out _ _ hx40]
              rw [HE]
              exact ⟨_, _, _, rfl, HI3.out, hr3, hm3, by omega⟩
            case measure => simp [intOf]; omega
          case true.false =>
            go_wp2_with fail
            refine (l8Open_c _ _ _ zn l hz64 hl _).mono ?_
            rintro e w2 ⟨rfl, hb2⟩
            have HB2 : Hid (Below (w.heap.size + 1) (w.alloc (.cells #[.int .i64 s, .slice (some ⟨b, off, none⟩) gs.length cd, .slice (some ⟨bp, offp, none⟩) ps.length ck] 36)) w2) := (HBo.out.alloc (by omega) _).trans (hb2.mono (by simp; omega))
            have HI2 : Hid (IC w2 (some ⟨bo, oo, none⟩) L) := (HO.out.later ((Below.refl _ _).alloc (Nat.le_refl _) _)).later hb2
            have hz2 : wo.heap.size < w2.heap.size := by have := hb2.size; simp at this; omega
            have k0 : w2.cell? ⟨wo.heap.size, 0, none⟩ = some (.int .i64 xn) := by rw [hb2.cell (p := ⟨wo.heap.size, 0, none⟩) (by simp)]; simp [go_sem]
            have k1 : w2.cell? ⟨wo.heap.size, 1, none⟩ = some (.int .i64 yn) := by rw [hb2.cell (p := ⟨wo.heap.size, 1, none⟩) (by simp)]; simp [go_sem]
            clear hb2 hc hf
            rw [po]
            go_wp2_with fail
            refine (l1PutB_c _ _ _ L (yn : Int) _ HI2.out (by omega) hr hmx).mono ?_
            rintro e w3 ⟨bo3, oo3, co3, rfl, hi3, hr3, hm3, hb3, hlo3⟩
            have HB3 : Hid (Below (w.heap.size + 1) (w.alloc (.cells #[.int .i64 s, .slice (some ⟨b, off, none⟩) gs.length cd, .slice (some ⟨bp, offp, none⟩) ps.length ck] 36)) w3) := HB2.out.trans (hb3.mono (by omega))
            have hz3 : wo.heap.size < w3.heap.size := by have := hb3.size; omega
            have k0 := (hb3.cell (p := ⟨wo.heap.size, 0, none⟩) hz2).trans k0
            have k1 := (hb3.cell (p := ⟨wo.heap.size, 1, none⟩) hz2).trans k1
            obtain ⟨L1, hL1⟩ : ∃ M, M = putL L (yn : Int) := ⟨_, rfl⟩
            rw [← hL1] at hi3 hr3 ⊢
            have HI3 := Lib.hid hi3; clear hi3 hb3
            have HL1 := Lib.hid hL1; clear hL1
            go_wp2
            go_roundw
            case rel =>
              have HF : nbK gs x l (k + 1) = sN ||| 2 ^ yn := by
                rw [HN.out]; simp only [adjG, po, if_true]; simp only [beq_iff_eq, beq_eq_false_iff_ne] at p1 p2
                first | rw [if_pos p2, if_pos p1] | rw [if_pos p2, if_neg p1] | rw [if_neg p2, if_pos p1] | rw [if_neg p2, if_neg p1]
                all_goals simp [setN]
              refine ⟨k + 1, by omega, by go_num, ?_, HB3.out⟩
              rw [HF]
              have HE : pre ++ mem (sN ||| 2 ^ yn) = L1 := by rw [HL1.out, HL.out, put_mem _ HPRE2.out _ _ hy40]
              rw [HE]
              exact ⟨_, _, _, rfl, HI3.out, hr3, hm3, by omega⟩
            case measure => simp [intOf]; omega
          case true.true =>
            go_wp2_with fail
            refine (l8Open_c _ _ _ zn l hz64 hl _).mono ?_
            rintro e w2 ⟨rfl, hb2⟩
            have HB2 : Hid (Below (w.heap.size + 1) (w.alloc (.cells #[.int .i64 s, .slice (some ⟨b, off, none⟩) gs.length cd, .slice (some ⟨bp, offp, none⟩) ps.length ck] 36)) w2) := (HBo.out.alloc (by omega) _).trans (hb2.mono (by simp; omega))
            have HI2 : Hid (IC w2 (some ⟨bo, oo, none⟩) L) := (HO.out.later ((Below.refl _ _).alloc (Nat.le_refl _) _)).later hb2
            have hz2 : wo.heap.size < w2.heap.size := by have := hb2.size; simp at this; omega
            have k0 : w2.cell? ⟨wo.heap.size, 0, none⟩ = some (.int .i64 xn) := by rw [hb2.cell (p := ⟨wo.heap.size, 0, none⟩) (by simp)]; simp [go_sem]
            have k1 : w2.cell? ⟨wo.heap.size, 1, none⟩ = some (.int .i64 yn) := by rw [hb2.cell (p := ⟨wo.heap.size, 1, none⟩) (by simp)]; simp [go_sem]
            clear hb2 hc hf
            rw [po]
            go_wp2_with fail
            refine (l1PutB_c _ _ _ L (yn : Int) _ HI2.out (by omega) hr hmx).mono ?_
            rintro e w3 ⟨bo3, oo3, co3, rfl, hi3, hr3, hm3, hb3, hlo3⟩
            have HB3 : Hid (Below (w.heap.size + 1) (w.alloc (.cells #[.int .i64 s, .slice (some ⟨b, off, none⟩) gs.length cd, .slice (some ⟨bp, offp, none⟩) ps.length ck] 36)) w3) := HB2.out.trans (hb3.mono (by omega))
            have hz3 : wo.heap.size < w3.heap.size := by have := hb3.size; omega
            have k0 := (hb3.cell (p := ⟨wo.heap.size, 0, none⟩) hz2).trans k0
            have k1 := (hb3.cell (p := ⟨wo.heap.size, 1, none⟩) hz2).trans k1
            obtain ⟨L1, hL1⟩ : ∃ M, M = putL L (yn : Int) := ⟨_, rfl⟩
            rw [← hL1] at hi3 hr3 ⊢
            have HI3 := Lib.hid hi3; clear hi3 hb3
            have HL1 := Lib.hid hL1; clear hL1
            have HE1 : Hid (L1 = pre ++ mem (sN ||| 2 ^ yn)) := by show _ = _; rw [HL1.out, HL.out, put_mem _ HPRE2.out _ _ hy40]
            have hL141 : L1.length ≤ 41 := by rw [HE1.out]; exact HML.out _
            go_wp2_with fail
            refine (l1PutB_c _ _ _ L1 (xn : Int) _ HI3.out (by omega) hr3 hm3).mono ?_
            rintro e w4 ⟨bo4, oo4, co4, rfl, hi4, hr4, hm4, hb4, hlo4⟩
            have HB4 : Hid (Below (w.heap.size + 1) (w.alloc (.cells #[.int .i64 s, .slice (some ⟨b, off, none⟩) gs.length cd, .slice (some ⟨bp, offp, none⟩) ps.length ck] 36)) w4) := HB3.out.trans (hb4.mono (by omega))
            have hz4 : wo.heap.size < w4.heap.size := by have := hb4.size; omega
            have k0 := (hb4.cell (p := ⟨wo.heap.size, 0, none⟩) hz3).trans k0
            have k1 := (hb4.cell (p := ⟨wo.heap.size, 1, none⟩) hz3).trans k1
            obtain ⟨L2, hL2⟩ : ∃ M, M = putL L1 (xn : Int) := ⟨_, rfl⟩
            rw [← hL2] at hi4 hr4 ⊢
            have HI4 := Lib.hid hi4; clear hi4 hb4
            have HL2 := Lib.hid hL2; clear hL2
            go_wp2
            go_roundw
            case rel =>
              have HF : nbK gs x l (k + 1) = (sN ||| 2 ^ yn) ||| 2 ^ xn := by
                rw [HN.out]; simp only [adjG, po, if_true]; simp only [beq_iff_eq, beq_eq_false_iff_ne] at p1 p2
                first | rw [if_pos p2, if_pos p1] | rw [if_pos p2, if_neg p1] | rw [if_neg p2, if_pos p1] | rw [if_neg p2, if_neg p1]
                all_goals simp [setN]
              refine ⟨k + 1, by omega, by go_num, ?_, HB4.out⟩
              rw [HF]
              have HE : pre ++ mem ((sN ||| 2 ^ yn) ||| 2 ^ xn) = L2 := by rw [HL2.out, HE1.out, put_mem _ HPRE2.out _ _ hx40]
              rw [HE]
              exact ⟨_, _, _, rfl, HI4.out, hr4, hm4, by omega⟩
            case measure => simp [intOf]; omega
      · obtain rfl : k = gs.length := by omega
        have HE : Hid (actsL ⟨s, gs, ps⟩ x l = L) := by show _ = _; rw [HA.out, HL.out, hsN]
        clear hsN
        go_wp2
        go_ret
        exact ⟨_, rfl, by rw [HE.out]; exact ⟨_, _, _, rfl, HO.out, hr, hmx, by omega⟩, HB.out⟩
theorem l8Acts_c (v : Value) (m : Wk) (x l : Nat) (w : World) (hm : WkAt w v m) (ok : WkOk m) (hx : (x : Int) < m.size) (hl : l < 64) :
    Calls Try.prog 177 #[v, .int .i64 x, .int .i64 l] w fun e w' => ∃ u, e = .returned u ∧ SL w' u (actsL m x l) ∧ Below w.heap.size w w' :=
  (l8ActsB_c v m x l w hm ok hx hl).mono fun _ _ ⟨u, h1, ⟨b, off, c, h2, h3, h4, h5, _⟩, h6⟩ => ⟨u, h1, ⟨b, off, c, h2, h3, h4, h5⟩, h6⟩
end Go.Proofs.Ytmilpahggceemaa

namespace Go.Proofs.Ytmilpahggceemaa
open Go.RowKit Go.KD
attribute [local go_sem] later_cell later_frozen
theorem own_room {w : World} {base : Nat} {e : TypeId} {size n m : Nat} {xs : List Value} {a : Option Addr} (h : w.ownsRow base e size (.slice a m n) m xs) : m ≤ n := by
  rcases h.2 with ⟨h, _⟩ | ⟨g, cap, cur, hv, _, _, h, _⟩
  · cases h; exact Nat.le_refl _
  · cases hv; exact h
set_option maxRecDepth 100000 in
set_option maxHeartbeats 4000000 in
theorem concat2_c (cb : Nat) (a1 a2 : Option Addr) (c1 c2 : Nat) (A B : List Int) (w : World) (q0 : w.cell? ⟨cb, 0, none⟩ = some (.slice a1 A.length c1)) (q1 : w.cell? ⟨cb, 1, none⟩ = some (.slice a2 B.length c2)) (h1 : IC w a1 A) (h2 : IC w a2 B) (n1 : 0 < A.length) (m1 : A.length ≤ 1000) (m2 : B.length ≤ 1000) (hcb : cb < w.heap.size) :
    Calls Try.prog 275 #[.slice (some ⟨cb, 0, none⟩) 2 2] w fun e w' => ∃ v, e = .returned v ∧ w'.ownsRow w.heap.size 3 1 v (A ++ B).length (ints (A ++ B)) ∧ Below w.heap.size w w' := by
  obtain ⟨i0, hi, hz0, hz1, hz2⟩ := info_parts infoI
  have d1 : decide ((A.length : Int) < 0) = false := by simp
  have d2 : decide ((A.length : Int) + (B.length : Int) < 0) = false := by simp; omega
  go_enter Try.func275, Try.ntmps275
  go_wp2
  refine wp_loop_rounds 3 ?_
  (rw [rounds_succ]; go_wp2)
  (rw [rounds_succ]; go_wp2)
  (rw [rounds_succ]; go_wp2_with fail)
  refine (grow_c (A.length + B.length) (by omega) (by omega) _).mono ?_
  rintro e w1 ⟨v1, rfl, ho1, hb1⟩
  have HO1 := Lib.hid ho1; clear ho1
  have HB1 : Hid (Below w.heap.size w w1) := hb1
  have hzz := hb1.size
  have p0 : w1.cell? ⟨cb, 0, none⟩ = some (.slice a1 A.length c1) := (hb1.cell (p := ⟨cb, 0, none⟩) hcb).trans q0
  have p1 : w1.cell? ⟨cb, 1, none⟩ = some (.slice a2 B.length c2) := (hb1.cell (p := ⟨cb, 1, none⟩) hcb).trans q1
  clear hb1 d1 d2
  have key : ∀ (a : Option Addr) (L : List Int) (W : World), IC W a L → 0 < L.length → ∃ ad, a = some ad ∧ ∀ j u, (ints L)[j]? = some u → W.cell? (ad.add j) = some u := by
    intro a L W h hl
    obtain ⟨b, off, hb, -, -⟩ := h 0 hl
    refine ⟨⟨b, off, none⟩, hb, fun j u hu => ?_⟩
    have hj : j < L.length := by
      rcases Nat.lt_or_ge j L.length with h | h
      · exact h
      · rw [List.getElem?_eq_none (by simpa using h)] at hu; cases hu
    obtain ⟨b', off', hb', -, hc⟩ := h j hj
    rw [hb] at hb'; cases hb'
    rw [add_at rfl, hc, ← hu, ints, List.getElem?_map, List.getElem?_eq_getElem hj, getElem!_pos L j hj]
    rfl
  obtain ⟨ad1, rfl, hn1⟩ := key _ _ _ (h1.later HB1.out) n1
  have HN1 := Lib.hid hn1; clear hn1
  go_wp2
  refine wp_loop_rounds 3 ?_
  (rw [rounds_succ]; go_wp2_with (at_builtin; refine wpList_append_own _ rfl _ _ 24 rfl w.heap.size 3 i0 (.int .i64 0) 1 8 Try.underlying24 hi hz0 hz1 hz2 rfl (by decide) _ _ _ rfl HO1.out ad1 A.length c1 (ints A) rfl ?_ ?_ ?_ ?_ ?_ ?_ ?_; (simp [length_ints]); (exact HN1.out); (intro u hu; simp only [ints, List.mem_map] at hu; obtain ⟨x, _, rfl⟩ := hu; rfl); (unfold maxLen; omega); omega; (exact hzz); intro v2 w2 hown2 hgrow2 _))
  have HO2 := Lib.hid hown2; clear hown2
  have HB2 : Hid (Below w.heap.size w w2) := HB1.out.grown hgrow2 hzz (fun g hg => own_block_lo HO1.out hg)
  have r1 : w2.cell? ⟨cb, 1, none⟩ = some (.slice a2 B.length c2) := (HB2.out.cell (p := ⟨cb, 1, none⟩) hcb).trans q1
  have hz22 := HB2.out.size
  clear hgrow2
  rcases Nat.eq_zero_or_pos B.length with hB | hB
  · obtain rfl : B = [] := List.length_eq_zero_iff.1 hB
    obtain ⟨g2, cap2, rfl, -, -⟩ := HO2.out.form (by omega)
    have hroom := own_room HO2.out
    simp only [List.length_nil] at r1
    cases a2 with
    | none =>
      (rw [rounds_succ]; go_wp2)
      (rw [rounds_succ]; go_wp2_with fail)
      go_ret
      refine ⟨_, rfl, ?_, HB2.out⟩
      have := HO2.out
      simpa [ints] using this
    | some ad2 =>
      (rw [rounds_succ]; go_wp2_with (at_builtin; refine wpList_append_own _ rfl _ _ 24 rfl w.heap.size 3 i0 (.int .i64 0) 1 8 Try.underlying24 hi hz0 hz1 hz2 rfl (by decide) _ _ _ rfl HO2.out ad2 0 c2 [] rfl ?_ ?_ ?_ ?_ ?_ ?_ ?_; (simp); (intro j u hu; simp at hu); (intro u hu; simp at hu); (unfold maxLen; omega); omega; (exact hz22); intro v3 w3 hown3 hgrow3 _))
      have HO3 := Lib.hid hown3; clear hown3
      have HB3 : Hid (Below w.heap.size w w3) := HB2.out.grown hgrow3 hz22 (fun g hg => own_block_lo HO2.out hg)
      (rw [rounds_succ]; go_wp2_with fail)
      go_ret
      refine ⟨_, rfl, ?_, HB3.out⟩
      have := HO3.out
      simpa [ints] using this
  · obtain ⟨ad2, rfl, hn2⟩ := key _ _ _ (h2.later HB2.out) hB
    have HN2 := Lib.hid hn2; clear hn2
    clear key
    (rw [rounds_succ]; go_wp2_with (at_builtin; refine wpList_append_own _ rfl _ _ 24 rfl w.heap.size 3 i0 (.int .i64 0) 1 8 Try.underlying24 hi hz0 hz1 hz2 rfl (by decide) _ _ _ rfl HO2.out ad2 B.length c2 (ints B) rfl ?_ ?_ ?_ ?_ ?_ ?_ ?_; (simp [length_ints]); (exact HN2.out); (intro u hu; simp only [ints, List.mem_map] at hu; obtain ⟨x, _, rfl⟩ := hu; rfl); (unfold maxLen; omega); omega; (exact hz22); intro v3 w3 hown3 hgrow3 _))
    have HO3 := Lib.hid hown3; clear hown3
    have HB3 : Hid (Below w.heap.size w w3) := HB2.out.grown hgrow3 hz22 (fun g hg => own_block_lo HO2.out hg)
    (rw [rounds_succ]; go_wp2_with fail)
    go_ret
    refine ⟨_, rfl, ?_, HB3.out⟩
    have := HO3.out
    simpa [ints] using this
end Go.Proofs.Ytmilpahggceemaa

namespace Go.Proofs.Ytmilpahggceemaa
open Go.RowKit Go.KD
attribute [local go_sem] later_cell later_frozen
set_option maxHeartbeats 4000000 in
theorem acts_c (v : Value) (m : Wk) (x l : Nat) (w : World) (hm : WkAt w v m) (ok : WkOk m) (hx : (x : Int) < m.size) (hl : l < 64) :
    Calls Try.prog 163 #[v, .int .i64 x, .int .i64 l] w fun e w' => ∃ u, e = .returned u ∧ w'.ownsRow w.heap.size 3 1 u (actsL m x l).length (ints (actsL m x l)) ∧ Below w.heap.size w w' := by
  have hM := hm
  obtain ⟨⟨ad, cd, ak, ck, rfl, hd, hk'⟩, nd, nk⟩ := hM
  have hng := ok.ng
  have hnp : x < m.pulls.length := by have := ok.np; omega
  have NL := Lib.hid (nb_lt ok x l)
  obtain ⟨s, gs, ps⟩ := m
  dsimp only at *
  have OK := Lib.hid ok; clear ok
  have hs2 : s ≤ 12 := OK.out.s2
  have hx12 : x < 12 := by omega
  go_enter Try.func163, Try.ntmps163
  go_wp2
  go_loopw [7, 13] (fun n i wr => ∃ k : Nat, k ≤ gs.length ∧ i = .int .i64 k ∧ n = .int .i64 (nbK gs x l k) ∧ Below (w.heap.size + 1) (w.alloc (.cells #[.int .i64 s, .slice ad gs.length cd, .slice ak ps.length ck] 36)) wr) (fun _ i _ => gs.length - (intOf i).toNat)
  case atStart => exact ⟨0, Nat.zero_le _, rfl, rfl, Below.refl _ _⟩
  case round =>
    obtain ⟨wo, rfl⟩ : ∃ wo : World, wo = wr := ⟨_, rfl⟩
    obtain ⟨k, hkl, rfl, rfl, hb⟩ := hrel
    obtain ⟨hc, hf, hz⟩ := bcell3 hb
    simp only [World.size_alloc] at hz
    have hz1 : w.heap.size < wo.heap.size := by omega
    have HB : Hid (Below w.heap.size w wo) := (by (repeat (first | exact Below.refl _ _ | apply Below.drew | apply below_drewN | (refine Below.setCell ?_ (by first | omega | (simp; done) | (simp; omega) | (dsimp only; omega)) _) | (refine Below.alloc ?_ (by first | omega | (simp; done) | (simp; omega) | (dsimp only; omega)) _))) : Below w.heap.size w (w.alloc _)).trans (hb.mono (by omega))
    have hn := NL.out k hkl
    have HBo := Lib.hid hb
    by_cases hlt : k < gs.length
    · obtain ⟨b, off, x0, y0, z0, u0, rfl, HX, hbs, e0, e1, e2, e3⟩ := (hd.later HB.out).at k hlt
      obtain ⟨f1, f2, f3, f4, f5, f6, f7⟩ := gate_facts OK.out hlt HX.out
      dsimp only at f3
      obtain ⟨xn, rfl⟩ := Int.eq_ofNat_of_zero_le f1
      obtain ⟨yn, rfl⟩ := Int.eq_ofNat_of_zero_le (show 0 ≤ y0 by omega)
      obtain ⟨p, HP, ep, hp⟩ := shl_at xn (by omega)
      obtain ⟨q, HQ, eq, hq⟩ := shl_at yn (by omega)
      have hx0 : (xn : Int) < 12 := by omega
      have hy0 : (yn : Int) < 12 := by omega
      obtain ⟨sN, hsN⟩ : ∃ sN, sN = nbK gs x l k := ⟨_, rfl⟩
      rw [← hsN] at hn ⊢
      have HN : Hid (nbK gs x l (k + 1) = adjG x l sN ((xn : Int), (yn : Int), z0, u0)) := by show _ = _; rw [nb_step hlt, HX.out, hsN]
      clear hsN
      obtain ⟨s1, hs1⟩ : ∃ s1, s1 = sN ||| q := ⟨_, rfl⟩
      have hs1l : s1 < 4096 := by rw [hs1]; exact Nat.or_lt_two_pow (n := 12) hn hq
      have ea : bits .or .i64 (sN : Int) (q : Int) = (s1 : Int) := by rw [hs1]; exact i64_or sN q (by omega) (by omega)
      have eb : bits .or .i64 (sN : Int) (p : Int) = ((sN ||| p : Nat) : Int) := i64_or sN p (by omega) (by omega)
      have ec : bits .or .i64 (s1 : Int) (p : Int) = ((s1 ||| p : Nat) : Int) := i64_or s1 p (by omega) (by omega)
      have HS1 := Lib.hid hs1; clear hs1
      cases po : openB ((xn : Int), (yn : Int), z0, u0) l
      · have HF : Hid (nbK gs x l (k + 1) = sN) := by show _ = _; rw [HN.out]; simp [adjG, po]
        go_wp2_with fail
        refine (isOpen_c _ ⟨s, gs, ps⟩ _ (hm.later (HB.out.alloc (by omega) _)) OK.out k l hlt hl _ HX).mono ?_
        rintro e w2 ⟨rfl, hb2⟩
        have HB2 : Hid (Below (w.heap.size + 1) (w.alloc (.cells #[.int .i64 s, .slice (some ⟨b, off, none⟩) gs.length cd, .slice ak ps.length ck] 36)) w2) := (HBo.out.alloc (by omega) _).trans (hb2.mono (by simp; omega))
        rw [po]
        go_wp2
        go_roundw
        case rel => exact ⟨k + 1, by omega, by go_num, by rw [HF.out], HB2.out⟩
        case measure => simp [intOf]; omega
      · cases p1 : ((xn : Int) == (x : Int)) <;> cases p2 : ((yn : Int) == (x : Int))
        all_goals
          have HF := HN
          go_wp2_with fail
          refine (isOpen_c _ ⟨s, gs, ps⟩ _ (hm.later (HB.out.alloc (by omega) _)) OK.out k l hlt hl _ HX).mono ?_
          rintro e w2 ⟨rfl, hb2⟩
          have HB2 : Hid (Below (w.heap.size + 1) (w.alloc (.cells #[.int .i64 s, .slice (some ⟨b, off, none⟩) gs.length cd, .slice ak ps.length ck] 36)) w2) := (HBo.out.alloc (by omega) _).trans (hb2.mono (by simp; omega))
          have k0 : w2.cell? ⟨wo.heap.size, 0, none⟩ = some (.int .i64 xn) := by rw [hb2.cell (p := ⟨wo.heap.size, 0, none⟩) (by simp)]; simp [go_sem]
          have k1 : w2.cell? ⟨wo.heap.size, 1, none⟩ = some (.int .i64 yn) := by rw [hb2.cell (p := ⟨wo.heap.size, 1, none⟩) (by simp)]; simp [go_sem]
          clear hb2 hc hf
          rw [po]
          go_wp2
          go_roundw
          case rel =>
            refine ⟨k + 1, by omega, by go_num, ?_, HB2.out⟩
            rw [HF.out]
            simp only [beq_iff_eq, beq_eq_false_iff_ne] at p1 p2
            have key : adjG (x : Int) l sN ((xn : Int), (yn : Int), z0, u0) = (if (yn : Int) = x then setN (if (xn : Int) = x then setN sN yn else sN) xn else (if (xn : Int) = x then setN sN yn else sN)) := by simp only [adjG, po, if_true]
            rw [key]
            first | rw [if_pos p2, if_pos p1] | rw [if_pos p2, if_neg p1] | rw [if_neg p2, if_pos p1] | rw [if_neg p2, if_neg p1]
            all_goals simp [setN, HS1.out, HP.out, HQ.out]
          case measure => simp [intOf]; omega
    · obtain rfl : k = gs.length := by omega
      obtain ⟨b, off, pv, rfl, HX, hbs, e0⟩ := (hk'.later HB.out).at x hnp
      have hn30 : nbK gs x l gs.length < 1073741824 := by omega
      obtain ⟨sN, hsN⟩ : ∃ sN, sN = nbK gs x l gs.length := ⟨_, rfl⟩
      rw [← hsN] at hn hn30 ⊢
      cases p0 : (pv != 0)
      · have HR : Hid (actsL ⟨s, gs, ps⟩ x l = mem sN) := by
          show _ = _
          simp only [bne_eq_false_iff_eq] at p0
          simp [actsL, HX.out, p0, hsN]
        clear hsN
        go_wp2_with fail
        refine (members_c sN hn30 _).mono ?_
        rintro e w2 ⟨v2, rfl, ho2, hb2⟩
        go_wp2_with fail
        go_ret
        exact ⟨_, rfl, by rw [HR.out]; exact (Own.mono (Own.of ho2) HB.out.size (Nat.le_refl _)).row, below_then HB.out hb2⟩
      · have HR : Hid (actsL ⟨s, gs, ps⟩ x l = [-1] ++ mem sN) := by
          show _ = _
          simp only [bne_iff_ne] at p0
          simp [actsL, HX.out, p0, hsN]
        clear hsN
        have hml : (mem sN).length ≤ 40 := by rw [mem_eq]; exact memK_len _ _
        go_wp2_with fail
        refine (members_c sN hn30 _).mono ?_
        rintro e w2 ⟨v2, rfl, ho2, hb2⟩
        obtain ⟨a2, c2, rfl, -, hc2⟩ := (Own.of ho2).ic
        have HB2 : Hid (Below w.heap.size w w2) := below_then (HB.out.alloc (by omega) _) hb2
        have i1 : IC w2 (some ⟨wo.heap.size, 0, none⟩) [-1] := by
          intro j hj
          have : j = 0 := by simpa using hj
          subst this
          exact ⟨_, _, rfl, by have := hb2.size; simp at this; omega, by rw [hb2.cell (p := ⟨wo.heap.size, 0 + 0, none⟩) (by simp)]; simp [go_sem]⟩
        have hz2 := HB2.out.size
        clear hb2 ho2
        go_wp2_with fail
        refine (concat2_c w2.heap.size _ _ 1 c2 [-1] (mem sN) _ (by simp [go_sem]) (by simp [go_sem]) (i1.later ((Below.refl _ _).alloc (Nat.le_refl _) _)) (hc2.later ((Below.refl _ _).alloc (Nat.le_refl _) _)) (by simp) (by simp) (by omega) (by simp)).mono ?_
        rintro e w4 ⟨v4, rfl, ho4, hb4⟩
        go_wp2_with fail
        go_ret
        exact ⟨_, rfl, by rw [HR.out]; exact (Own.mono (Own.of ho4) (by have := HB2.out.size; simp; omega) (Nat.le_refl _)).row, below_then (HB2.out.alloc hz2 _) hb4⟩
end Go.Proofs.Ytmilpahggceemaa

namespace Go.KD
noncomputable def pActsAt (m : Wk) (x l : Int) : List Int × Bool := if visitB m x l then (actsL m x l, true) else ([], false)
theorem actsL_len (m : Wk) (x l : Int) : (actsL m x l).length ≤ 41 := by
  have := memK_len (nbK m.gates x l m.gates.length) 40
  unfold actsL
  rw [List.length_append, mem_eq]
  split <;> simp <;> omega
theorem pActsAt_len (m : Wk) (x l : Int) : (pActsAt m x l).1.length ≤ 1000000 := by
  have := actsL_len m x l
  unfold pActsAt; split
  · show (actsL m x l).length ≤ _; omega
  · simp
theorem visit_parts {m : Wk} {x l : Int} (h : visitB m x l = true) : WkOk m ∧ ∃ xn ln : Nat, x = xn ∧ l = ln ∧ (xn : Int) < m.size ∧ ln < 64 := by
  simp only [visitB, Bool.and_eq_true] at h
  obtain ⟨⟨h1, h2⟩, h3⟩ := h
  obtain ⟨x0, x1⟩ := inB_true.1 h2
  obtain ⟨l0, l1⟩ := setB_true.1 h3
  obtain ⟨xn, rfl⟩ := Int.eq_ofNat_of_zero_le x0
  obtain ⟨ln, rfl⟩ := Int.eq_ofNat_of_zero_le l0
  exact ⟨worksB_true.1 h1, xn, ln, rfl, rfl, by omega, by omega⟩
end Go.KD
namespace Go.Proofs.Ytmilpahggceemaa
open Go.RowKit Go.KD
attribute [local go_sem] later_cell later_frozen
theorem specActsAt_c (v : Value) (m : Wk) (x l : Int) (w : World) (R : List Int) (b : Bool) (hp : pActsAt m x l = (R, b)) (hm : WkAt w v m) (wx : wfI x) (wl : wfI l) :
    Calls Try.prog 61 #[v, .int .i64 x, .int .i64 l] w fun e w' => ∃ aw cw, e = .returned (.tuple #[.slice aw R.length cw, .bool b]) ∧ IC w' aw R ∧ Below w.heap.size w w' := by
  have hM := hm
  obtain ⟨⟨ad, cd, ak, ck, rfl, hd, hk'⟩, nd, nk⟩ := hM
  cases g : visitB m x l
  · simp only [pActsAt, g] at hp
    cases hp
    go_enter Try.func61, Try.ntmps61
    go_wp2_with fail
    refine (l8Visit_c _ m _ _ _ (hm.later (by (repeat (first | exact Below.refl _ _ | apply Below.drew | apply below_drewN | (refine Below.setCell ?_ (by first | omega | (simp; done) | (simp; omega) | (dsimp only; omega)) _) | (refine Below.alloc ?_ (by first | omega | (simp; done) | (simp; omega) | (dsimp only; omega)) _)))))).mono ?_
    rintro e w1 ⟨rfl, hb1⟩
    have HB1 : Hid (Below w.heap.size w w1) := below_then (by (repeat (first | exact Below.refl _ _ | apply Below.drew | apply below_drewN | (refine Below.setCell ?_ (by first | omega | (simp; done) | (simp; omega) | (dsimp only; omega)) _) | (refine Below.alloc ?_ (by first | omega | (simp; done) | (simp; omega) | (dsimp only; omega)) _)))) hb1
    rw [g]
    go_wp2_with fail
    go_ret2
    exact ⟨_, _, rfl, fun k hk => absurd hk (Nat.not_lt_zero k), HB1.out.alloc HB1.out.size _⟩
  · obtain ⟨ok, xn, ln, rfl, rfl, hx, hl⟩ := visit_parts g
    simp only [pActsAt, g, if_true] at hp
    cases hp
    have OK := Lib.hid ok; clear ok
    go_enter Try.func61, Try.ntmps61
    go_wp2_with fail
    refine (l8Visit_c _ m _ _ _ (hm.later (by (repeat (first | exact Below.refl _ _ | apply Below.drew | apply below_drewN | (refine Below.setCell ?_ (by first | omega | (simp; done) | (simp; omega) | (dsimp only; omega)) _) | (refine Below.alloc ?_ (by first | omega | (simp; done) | (simp; omega) | (dsimp only; omega)) _)))))).mono ?_
    rintro e w1 ⟨rfl, hb1⟩
    have HB1 : Hid (Below w.heap.size w w1) := below_then (by (repeat (first | exact Below.refl _ _ | apply Below.drew | apply below_drewN | (refine Below.setCell ?_ (by first | omega | (simp; done) | (simp; omega) | (dsimp only; omega)) _) | (refine Below.alloc ?_ (by first | omega | (simp; done) | (simp; omega) | (dsimp only; omega)) _)))) hb1
    obtain ⟨hc1, hf1, hz1⟩ := bcell3 hb1
    rw [g]
    go_wp2_with fail
    refine (l8Acts_c _ m xn ln _ (hm.later HB1.out) OK.out hx hl).mono ?_
    rintro e w2 ⟨u, rfl, ⟨bu, ou, cu, rfl, hi, _, _⟩, hb2⟩
    have HI := Lib.hid hi; clear hi
    go_wp2_with fail
    go_ret2
    exact ⟨_, _, rfl, HI.out, below_then HB1.out hb2⟩
theorem implActsAt_c (v : Value) (m : Wk) (x l : Int) (w : World) (R : List Int) (b : Bool) (hp : pActsAt m x l = (R, b)) (hm : WkAt w v m) (wx : wfI x) (wl : wfI l) :
    Calls Try.prog 39 #[v, .int .i64 x, .int .i64 l] w fun e w' => ∃ u, e = .returned (.tuple #[u, .bool b]) ∧ w'.ownsRow w.heap.size 3 1 u R.length (ints R) ∧ Below w.heap.size w w' := by
  have hM := hm
  obtain ⟨⟨ad, cd, ak, ck, rfl, hd, hk'⟩, nd, nk⟩ := hM
  cases g : visitB m x l
  · simp only [pActsAt, g] at hp
    cases hp
    go_enter Try.func39, Try.ntmps39
    go_wp2_with fail
    refine (isVisitOf_c _ m _ _ _ (hm.later (by (repeat (first | exact Below.refl _ _ | apply Below.drew | apply below_drewN | (refine Below.setCell ?_ (by first | omega | (simp; done) | (simp; omega) | (dsimp only; omega)) _) | (refine Below.alloc ?_ (by first | omega | (simp; done) | (simp; omega) | (dsimp only; omega)) _)))))).mono ?_
    rintro e w1 ⟨rfl, hb1⟩
    have HB1 : Hid (Below w.heap.size w w1) := below_then (by (repeat (first | exact Below.refl _ _ | apply Below.drew | apply below_drewN | (refine Below.setCell ?_ (by first | omega | (simp; done) | (simp; omega) | (dsimp only; omega)) _) | (refine Below.alloc ?_ (by first | omega | (simp; done) | (simp; omega) | (dsimp only; omega)) _)))) hb1
    rw [g]
    go_wp2_with fail
    go_ret2
    exact ⟨_, rfl, ⟨rfl, .inl ⟨rfl, rfl⟩⟩, HB1.out⟩
  · obtain ⟨ok, xn, ln, rfl, rfl, hx, hl⟩ := visit_parts g
    simp only [pActsAt, g, if_true] at hp
    cases hp
    have OK := Lib.hid ok; clear ok
    go_enter Try.func39, Try.ntmps39
    go_wp2_with fail
    refine (isVisitOf_c _ m _ _ _ (hm.later (by (repeat (first | exact Below.refl _ _ | apply Below.drew | apply below_drewN | (refine Below.setCell ?_ (by first | omega | (simp; done) | (simp; omega) | (dsimp only; omega)) _) | (refine Below.alloc ?_ (by first | omega | (simp; done) | (simp; omega) | (dsimp only; omega)) _)))))).mono ?_
    rintro e w1 ⟨rfl, hb1⟩
    have HB1 : Hid (Below w.heap.size w w1) := below_then (by (repeat (first | exact Below.refl _ _ | apply Below.drew | apply below_drewN | (refine Below.setCell ?_ (by first | omega | (simp; done) | (simp; omega) | (dsimp only; omega)) _) | (refine Below.alloc ?_ (by first | omega | (simp; done) | (simp; omega) | (dsimp only; omega)) _)))) hb1
    obtain ⟨hc1, hf1, hz1⟩ := bcell3 hb1
    rw [g]
    go_wp2_with fail
    refine (acts_c _ m xn ln _ (hm.later HB1.out) OK.out hx hl).mono ?_
    rintro e w2 ⟨u, rfl, ho, hb2⟩
    have HI := Lib.hid ho; clear ho
    go_wp2_with fail
    go_ret2
    exact ⟨_, rfl, (Own.mono (Own.of HI.out) HB1.out.size (Nat.le_refl _)).row, below_then HB1.out hb2⟩
end Go.Proofs.Ytmilpahggceemaa

namespace Go.KD
def doP (m : Wk) (x l a : Int) : Int × Int := if a < 0 then (x, xorV l m.pulls[x.toNat]!) else (a, l)
noncomputable def pDoAct (m : Wk) (x l a : Int) : Int × Int × Bool := if visitB m x l && hasI (actsL m x l) a then ((doP m x l a).1, (doP m x l a).2, true) else (0, 0, false)
end Go.KD
namespace Go.Proofs.Ytmilpahggceemaa
open Go.RowKit Go.KD
attribute [local go_sem] later_cell later_frozen
set_option maxHeartbeats 1000000 in
theorem behind_c (v : Value) (m : Wk) (x l : Nat) (a : Int) (w : World) (hm : WkAt w v m) (ok : WkOk m) (hx : (x : Int) < m.size) (hl : l < 64) :
    Calls Try.prog 170 #[v, .int .i64 x, .int .i64 l, .int .i64 a] w fun e w' => e = .returned (.tuple #[.int .i64 (doP m x l a).1, .int .i64 (doP m x l a).2]) ∧ Below w.heap.size w w' := by
  have hM := hm
  obtain ⟨⟨ad, cd, ak, ck, rfl, hd, hk'⟩, nd, nk⟩ := hM
  have hnp : x < m.pulls.length := by have := ok.np; omega
  have hpl := ok.pl x hnp
  obtain ⟨s, gs, ps⟩ := m
  dsimp only at *
  have OK := Lib.hid ok; clear ok
  have hs2 : s ≤ 12 := OK.out.s2
  have hx12 : x < 12 := by omega
  obtain ⟨bp, offp, pv, rfl, HX, hbs, ep⟩ := hk'.at x hnp
  rw [HX.out] at hpl
  obtain ⟨hp0, hp1⟩ := setB_true.1 hpl
  clear hpl
  have ex : bits .xor .i64 (l : Int) pv = xorV l pv := xorV_bits (by omega) (by omega)
  have hxn : (x : Int) < (ps.length : Int) := by omega
  have hbs1 : bp < w.heap.size + 1 := by omega
  cases p0 : decide (a < 0)
  · have HD : Hid (doP ⟨s, gs, ps⟩ x l a = (a, (l : Int))) := by show _ = _; simp only [decide_eq_false_iff_not] at p0; simp [doP, p0]
    go_enter Try.func170, Try.ntmps170
    go_wp2
    go_ret2
    exact ⟨ret_tup2 (by rw [HD.out] <;> rfl), by (repeat (first | exact Below.refl _ _ | apply Below.drew | apply below_drewN | (refine Below.setCell ?_ (by first | omega | (simp; done) | (simp; omega) | (dsimp only; omega)) _) | (refine Below.alloc ?_ (by first | omega | (simp; done) | (simp; omega) | (dsimp only; omega)) _)))⟩
  · have HD : Hid (doP ⟨s, gs, ps⟩ x l a = ((x : Int), xorV l pv)) := by show _ = _; simp only [decide_eq_true_eq] at p0; simp [doP, p0, HX.out]
    go_enter Try.func170, Try.ntmps170
    go_wp2
    go_quiet (fail)
    go_wp2
    go_ret2
    exact ⟨ret_tup2 (by rw [HD.out] <;> rfl), by (repeat (first | exact Below.refl _ _ | apply Below.drew | apply below_drewN | (refine Below.setCell ?_ (by first | omega | (simp; done) | (simp; omega) | (dsimp only; omega)) _) | (refine Below.alloc ?_ (by first | omega | (simp; done) | (simp; omega) | (dsimp only; omega)) _)))⟩
set_option maxHeartbeats 1000000 in
theorem l8Do_c (v : Value) (m : Wk) (x l : Nat) (a : Int) (w : World) (hm : WkAt w v m) (ok : WkOk m) (hx : (x : Int) < m.size) (hl : l < 64) :
    Calls Try.prog 178 #[v, .int .i64 x, .int .i64 l, .int .i64 a] w fun e w' => e = .returned (.tuple #[.int .i64 (doP m x l a).1, .int .i64 (doP m x l a).2]) ∧ Below w.heap.size w w' := by
  have hM := hm
  obtain ⟨⟨ad, cd, ak, ck, rfl, hd, hk'⟩, nd, nk⟩ := hM
  have hnp : x < m.pulls.length := by have := ok.np; omega
  have hpl := ok.pl x hnp
  obtain ⟨s, gs, ps⟩ := m
  dsimp only at *
  have OK := Lib.hid ok; clear ok
  have hs2 : s ≤ 12 := OK.out.s2
  have hx12 : x < 12 := by omega
  obtain ⟨bp, offp, pv, rfl, HX, hbs, ep⟩ := hk'.at x hnp
  rw [HX.out] at hpl
  obtain ⟨hp0, hp1⟩ := setB_true.1 hpl
  clear hpl
  have ex : bits .xor .i64 (l : Int) pv = xorV l pv := xorV_bits (by omega) (by omega)
  have hxn : (x : Int) < (ps.length : Int) := by omega
  have hbs1 : bp < w.heap.size + 1 := by omega
  cases p0 : decide (a < 0)
  · have HD : Hid (doP ⟨s, gs, ps⟩ x l a = (a, (l : Int))) := by show _ = _; simp only [decide_eq_false_iff_not] at p0; simp [doP, p0]
    go_enter Try.func178, Try.ntmps178
    go_wp2
    go_ret2
    exact ⟨ret_tup2 (by rw [HD.out] <;> rfl), by (repeat (first | exact Below.refl _ _ | apply Below.drew | apply below_drewN | (refine Below.setCell ?_ (by first | omega | (simp; done) | (simp; omega) | (dsimp only; omega)) _) | (refine Below.alloc ?_ (by first | omega | (simp; done) | (simp; omega) | (dsimp only; omega)) _)))⟩
  · have HD : Hid (doP ⟨s, gs, ps⟩ x l a = ((x : Int), xorV l pv)) := by show _ = _; simp only [decide_eq_true_eq] at p0; simp [doP, p0, HX.out]
    go_enter Try.func178, Try.ntmps178
    go_wp2
    go_quiet (fail)
    go_wp2
    go_ret2
    exact ⟨ret_tup2 (by rw [HD.out] <;> rfl), by (repeat (first | exact Below.refl _ _ | apply Below.drew | apply below_drewN | (refine Below.setCell ?_ (by first | omega | (simp; done) | (simp; omega) | (dsimp only; omega)) _) | (refine Below.alloc ?_ (by first | omega | (simp; done) | (simp; omega) | (dsimp only; omega)) _)))⟩
set_option maxHeartbeats 1000000 in
theorem specDoAct_c (v : Value) (m : Wk) (x l a : Int) (w : World) (hm : WkAt w v m) (wx : wfI x) (wl : wfI l) (wa : wfI a) :
    Calls Try.prog 60 #[v, .int .i64 x, .int .i64 l, .int .i64 a] w fun e w' => e = .returned (.tuple #[.int .i64 (pDoAct m x l a).1, .int .i64 (pDoAct m x l a).2.1, .bool (pDoAct m x l a).2.2]) ∧ Below w.heap.size w w' := by
  have hM := hm
  obtain ⟨⟨ad, cd, ak, ck, rfl, hd, hk'⟩, nd, nk⟩ := hM
  cases g : visitB m x l
  case false =>
    have HD : Hid (pDoAct m x l a = (0, 0, false)) := by show _ = _; simp [pDoAct, g]
    go_enter Try.func60, Try.ntmps60
    go_wp2_with fail
    refine (l8Visit_c _ m _ _ _ (hm.later (by (repeat (first | exact Below.refl _ _ | apply Below.drew | apply below_drewN | (refine Below.setCell ?_ (by first | omega | (simp; done) | (simp; omega) | (dsimp only; omega)) _) | (refine Below.alloc ?_ (by first | omega | (simp; done) | (simp; omega) | (dsimp only; omega)) _)))))).mono ?_
    rintro e w1 ⟨rfl, hb1⟩
    have HB1 : Hid (Below w.heap.size w w1) := below_then (by (repeat (first | exact Below.refl _ _ | apply Below.drew | apply below_drewN | (refine Below.setCell ?_ (by first | omega | (simp; done) | (simp; omega) | (dsimp only; omega)) _) | (refine Below.alloc ?_ (by first | omega | (simp; done) | (simp; omega) | (dsimp only; omega)) _)))) hb1
    obtain ⟨hc1, hf1, hz1⟩ := bcell3 hb1
    rw [g]
    go_wp2_with fail
    go_ret3
    exact ⟨ret_tup2 (by rw [HD.out] <;> rfl), HB1.out⟩
  case true =>
    obtain ⟨ok, xn, ln, rfl, rfl, hx, hl⟩ := visit_parts g
    have OK := Lib.hid ok; clear ok
    have h41 := actsL_len m xn ln
    cases p1 : hasI (actsL m xn ln) a
    case false =>
      have HD : Hid (pDoAct m xn ln a = (0, 0, false)) := by show _ = _; simp [pDoAct, g, p1]
      go_enter Try.func60, Try.ntmps60
      go_wp2_with fail
      refine (l8Visit_c _ m _ _ _ (hm.later (by (repeat (first | exact Below.refl _ _ | apply Below.drew | apply below_drewN | (refine Below.setCell ?_ (by first | omega | (simp; done) | (simp; omega) | (dsimp only; omega)) _) | (refine Below.alloc ?_ (by first | omega | (simp; done) | (simp; omega) | (dsimp only; omega)) _)))))).mono ?_
      rintro e w1 ⟨rfl, hb1⟩
      have HB1 : Hid (Below w.heap.size w w1) := below_then (by (repeat (first | exact Below.refl _ _ | apply Below.drew | apply below_drewN | (refine Below.setCell ?_ (by first | omega | (simp; done) | (simp; omega) | (dsimp only; omega)) _) | (refine Below.alloc ?_ (by first | omega | (simp; done) | (simp; omega) | (dsimp only; omega)) _)))) hb1
      obtain ⟨hc1, hf1, hz1⟩ := bcell3 hb1
      rw [g]
      go_wp2_with fail
      refine (l8Acts_c _ m xn ln _ (hm.later HB1.out) OK.out hx hl).mono ?_
      rintro e w2 ⟨u, rfl, ⟨bu, ou, cu, rfl, hi, -, -⟩, hb2⟩
      have HI := Lib.hid hi; clear hi
      go_wp2_with fail
      refine (l1Has_c _ _ _ (actsL m xn ln) _ _ rfl HI.out (by omega)).mono ?_
      rintro e w3 ⟨rfl, rfl⟩
      rw [p1]
      go_wp2_with fail
      go_ret3
      exact ⟨ret_tup2 (by rw [HD.out] <;> rfl), below_then HB1.out hb2⟩

    case true =>
      have HD : Hid (pDoAct m xn ln a = ((doP m xn ln a).1, (doP m xn ln a).2, true)) := by show _ = _; simp [pDoAct, g, p1]
      go_enter Try.func60, Try.ntmps60
      go_wp2_with fail
      refine (l8Visit_c _ m _ _ _ (hm.later (by (repeat (first | exact Below.refl _ _ | apply Below.drew | apply below_drewN | (refine Below.setCell ?_ (by first | omega | (simp; done) | (simp; omega) | (dsimp only; omega)) _) | (refine Below.alloc ?_ (by first | omega | (simp; done) | (simp; omega) | (dsimp only; omega)) _)))))).mono ?_
      rintro e w1 ⟨rfl, hb1⟩
      have HB1 : Hid (Below w.heap.size w w1) := below_then (by (repeat (first | exact Below.refl _ _ | apply Below.drew | apply below_drewN | (refine Below.setCell ?_ (by first | omega | (simp; done) | (simp; omega) | (dsimp only; omega)) _) | (refine Below.alloc ?_ (by first | omega | (simp; done) | (simp; omega) | (dsimp only; omega)) _)))) hb1
      obtain ⟨hc1, hf1, hz1⟩ := bcell3 hb1
      rw [g]
      go_wp2_with fail
      refine (l8Acts_c _ m xn ln _ (hm.later HB1.out) OK.out hx hl).mono ?_
      rintro e w2 ⟨u, rfl, ⟨bu, ou, cu, rfl, hi, -, -⟩, hb2⟩
      have HI := Lib.hid hi; clear hi
      go_wp2_with fail
      refine (l1Has_c _ _ _ (actsL m xn ln) _ _ rfl HI.out (by omega)).mono ?_
      rintro e w3 ⟨rfl, rfl⟩
      rw [p1]
      have HB2 : Hid (Below w.heap.size w w2) := below_then HB1.out hb2
      obtain ⟨hc2, hf2, hz2⟩ := bcell3 hb2
      have hz1' : w.heap.size < w1.heap.size := by have := hb1.size; simp only [World.size_alloc] at this; omega
      have q0 : w2.cell? ⟨w.heap.size, 0, none⟩ = some (.int .i64 m.size) := by rw [hb2.cell (p := ⟨w.heap.size, 0, none⟩) (by omega), hb1.cell (p := ⟨w.heap.size, 0, none⟩) (by simp)]; simp [go_sem]
      have q1 : w2.cell? ⟨w.heap.size, 1, none⟩ = some (.slice ad m.gates.length cd) := by rw [hb2.cell (p := ⟨w.heap.size, 1, none⟩) (by omega), hb1.cell (p := ⟨w.heap.size, 1, none⟩) (by simp)]; simp [go_sem]
      have q2 : w2.cell? ⟨w.heap.size, 2, none⟩ = some (.slice ak m.pulls.length ck) := by rw [hb2.cell (p := ⟨w.heap.size, 2, none⟩) (by omega), hb1.cell (p := ⟨w.heap.size, 2, none⟩) (by simp)]; simp [go_sem]
      clear hc1 hf1 hc2 hf2 hb1 hb2
      go_wp2_with fail
      refine (l8Do_c _ m xn ln a _ (hm.later HB2.out) OK.out hx hl).mono ?_
      rintro e w4 ⟨rfl, hb4⟩
      go_wp2_with fail
      go_ret3
      exact ⟨ret_tup2 (by rw [HD.out] <;> rfl), below_then HB2.out hb4⟩

set_option maxHeartbeats 1000000 in
theorem implDoAct_c (v : Value) (m : Wk) (x l a : Int) (w : World) (hm : WkAt w v m) (wx : wfI x) (wl : wfI l) (wa : wfI a) :
    Calls Try.prog 59 #[v, .int .i64 x, .int .i64 l, .int .i64 a] w fun e w' => e = .returned (.tuple #[.int .i64 (pDoAct m x l a).1, .int .i64 (pDoAct m x l a).2.1, .bool (pDoAct m x l a).2.2]) ∧ Below w.heap.size w w' := by
  have hM := hm
  obtain ⟨⟨ad, cd, ak, ck, rfl, hd, hk'⟩, nd, nk⟩ := hM
  cases g : visitB m x l
  case false =>
    have HD : Hid (pDoAct m x l a = (0, 0, false)) := by show _ = _; simp [pDoAct, g]
    go_enter Try.func59, Try.ntmps59
    go_wp2_with fail
    refine (isVisitOf_c _ m _ _ _ (hm.later (by (repeat (first | exact Below.refl _ _ | apply Below.drew | apply below_drewN | (refine Below.setCell ?_ (by first | omega | (simp; done) | (simp; omega) | (dsimp only; omega)) _) | (refine Below.alloc ?_ (by first | omega | (simp; done) | (simp; omega) | (dsimp only; omega)) _)))))).mono ?_
    rintro e w1 ⟨rfl, hb1⟩
    have HB1 : Hid (Below w.heap.size w w1) := below_then (by (repeat (first | exact Below.refl _ _ | apply Below.drew | apply below_drewN | (refine Below.setCell ?_ (by first | omega | (simp; done) | (simp; omega) | (dsimp only; omega)) _) | (refine Below.alloc ?_ (by first | omega | (simp; done) | (simp; omega) | (dsimp only; omega)) _)))) hb1
    obtain ⟨hc1, hf1, hz1⟩ := bcell3 hb1
    rw [g]
    go_wp2_with fail
    go_ret3
    exact ⟨ret_tup2 (by rw [HD.out] <;> rfl), HB1.out⟩
  case true =>
    obtain ⟨ok, xn, ln, rfl, rfl, hx, hl⟩ := visit_parts g
    have OK := Lib.hid ok; clear ok
    have h41 := actsL_len m xn ln
    cases p1 : hasI (actsL m xn ln) a
    case false =>
      have HD : Hid (pDoAct m xn ln a = (0, 0, false)) := by show _ = _; simp [pDoAct, g, p1]
      go_enter Try.func59, Try.ntmps59
      go_wp2_with fail
      refine (isVisitOf_c _ m _ _ _ (hm.later (by (repeat (first | exact Below.refl _ _ | apply Below.drew | apply below_drewN | (refine Below.setCell ?_ (by first | omega | (simp; done) | (simp; omega) | (dsimp only; omega)) _) | (refine Below.alloc ?_ (by first | omega | (simp; done) | (simp; omega) | (dsimp only; omega)) _)))))).mono ?_
      rintro e w1 ⟨rfl, hb1⟩
      have HB1 : Hid (Below w.heap.size w w1) := below_then (by (repeat (first | exact Below.refl _ _ | apply Below.drew | apply below_drewN | (refine Below.setCell ?_ (by first | omega | (simp; done) | (simp; omega) | (dsimp only; omega)) _) | (refine Below.alloc ?_ (by first | omega | (simp; done) | (simp; omega) | (dsimp only; omega)) _)))) hb1
      obtain ⟨hc1, hf1, hz1⟩ := bcell3 hb1
      rw [g]
      go_wp2_with fail
      refine (acts_c _ m xn ln _ (hm.later HB1.out) OK.out hx hl).mono ?_
      rintro e w2 ⟨u, rfl, ho, hb2⟩
      obtain ⟨au, cu, rfl, -, hi⟩ := (Own.of ho).ic
      have HI := Lib.hid hi; clear hi ho
      go_wp2_with fail
      refine (contains_c _ _ _ (actsL m xn ln) _ _ rfl HI.out (by omega)).mono ?_
      rintro e w3 ⟨rfl, rfl⟩
      rw [p1]
      go_wp2_with fail
      go_ret3
      exact ⟨ret_tup2 (by rw [HD.out] <;> rfl), below_then HB1.out hb2⟩

    case true =>
      have HD : Hid (pDoAct m xn ln a = ((doP m xn ln a).1, (doP m xn ln a).2, true)) := by show _ = _; simp [pDoAct, g, p1]
      go_enter Try.func59, Try.ntmps59
      go_wp2_with fail
      refine (isVisitOf_c _ m _ _ _ (hm.later (by (repeat (first | exact Below.refl _ _ | apply Below.drew | apply below_drewN | (refine Below.setCell ?_ (by first | omega | (simp; done) | (simp; omega) | (dsimp only; omega)) _) | (refine Below.alloc ?_ (by first | omega | (simp; done) | (simp; omega) | (dsimp only; omega)) _)))))).mono ?_
      rintro e w1 ⟨rfl, hb1⟩
      have HB1 : Hid (Below w.heap.size w w1) := below_then (by (repeat (first | exact Below.refl _ _ | apply Below.drew | apply below_drewN | (refine Below.setCell ?_ (by first | omega | (simp; done) | (simp; omega) | (dsimp only; omega)) _) | (refine Below.alloc ?_ (by first | omega | (simp; done) | (simp; omega) | (dsimp only; omega)) _)))) hb1
      obtain ⟨hc1, hf1, hz1⟩ := bcell3 hb1
      rw [g]
      go_wp2_with fail
      refine (acts_c _ m xn ln _ (hm.later HB1.out) OK.out hx hl).mono ?_
      rintro e w2 ⟨u, rfl, ho, hb2⟩
      obtain ⟨au, cu, rfl, -, hi⟩ := (Own.of ho).ic
      have HI := Lib.hid hi; clear hi ho
      go_wp2_with fail
      refine (contains_c _ _ _ (actsL m xn ln) _ _ rfl HI.out (by omega)).mono ?_
      rintro e w3 ⟨rfl, rfl⟩
      rw [p1]
      have HB2 : Hid (Below w.heap.size w w2) := below_then HB1.out hb2
      obtain ⟨hc2, hf2, hz2⟩ := bcell3 hb2
      have hz1' : w.heap.size < w1.heap.size := by have := hb1.size; simp only [World.size_alloc] at this; omega
      have q0 : w2.cell? ⟨w.heap.size, 0, none⟩ = some (.int .i64 m.size) := by rw [hb2.cell (p := ⟨w.heap.size, 0, none⟩) (by omega), hb1.cell (p := ⟨w.heap.size, 0, none⟩) (by simp)]; simp [go_sem]
      have q1 : w2.cell? ⟨w.heap.size, 1, none⟩ = some (.slice ad m.gates.length cd) := by rw [hb2.cell (p := ⟨w.heap.size, 1, none⟩) (by omega), hb1.cell (p := ⟨w.heap.size, 1, none⟩) (by simp)]; simp [go_sem]
      have q2 : w2.cell? ⟨w.heap.size, 2, none⟩ = some (.slice ak m.pulls.length ck) := by rw [hb2.cell (p := ⟨w.heap.size, 2, none⟩) (by omega), hb1.cell (p := ⟨w.heap.size, 2, none⟩) (by simp)]; simp [go_sem]
      clear hc1 hf1 hc2 hf2 hb1 hb2
      go_wp2_with fail
      refine (behind_c _ m xn ln a _ (hm.later HB2.out) OK.out hx hl).mono ?_
      rintro e w4 ⟨rfl, hb4⟩
      go_wp2_with fail
      go_ret3
      exact ⟨ret_tup2 (by rw [HD.out] <;> rfl), below_then HB2.out hb4⟩

end Go.Proofs.Ytmilpahggceemaa

namespace Go.KD
/-- The visit behind the first k acts of a plan; none if it is none. -/
def runK (m : Wk) (p : List Int) : Nat → Option (Int × Int)
  | 0 => some (0, 0)
  | k + 1 => match runK m p k with
    | none => none
    | some (x, l) => if hasI (actsL m x l) p[k]! then some (doP m x l p[k]!) else none
def runP (m : Wk) (p : List Int) : Int × Int × Bool :=
  if p.length ≤ 60 then (match runK m p p.length with | some (x, l) => (x, l, true) | none => (0, 0, false)) else (0, 0, false)
theorem act_range {m : Wk} (ok : WkOk m) {x l : Nat} {a : Int} (hx : (x : Int) < m.size) (h : hasI (actsL m x l) a = true) : a = -1 ∨ (0 ≤ a ∧ a < m.size) := by
  rw [hasI_iff] at h
  unfold actsL at h
  rw [List.mem_append] at h
  rcases h with h | h
  · split at h
    · cases h
    · left; simpa using h
  · right
    have : ∀ k, k ≤ m.gates.length → ∀ i : Nat, (nbK m.gates x l k).testBit i = true → (i : Int) < m.size := by
      intro k
      induction k with
      | zero => intro _ i hi; simp [nbK] at hi
      | succ k ih =>
        intro hk i hi
        rw [nb_step (by omega)] at hi
        obtain ⟨a, b, c, d, hg⟩ : ∃ a b c d, m.gates[k]! = (a, b, c, d) := ⟨_, _, _, _, rfl⟩
        have f := gate_facts ok (by omega) hg
        have ih := ih (by omega) i
        rw [hg] at hi
        have hs : ∀ (s : Nat) (z : Int), 0 ≤ z → z < m.size → (setN s z).testBit i = true → s.testBit i = true ∨ (i : Int) < m.size := by
          intro s z z0 z1 h
          unfold setN at h
          rw [Nat.testBit_or, Bool.or_eq_true, Nat.testBit_two_pow] at h
          rcases h with h | h
          · exact .inl h
          · right; have : z.toNat = i := by simpa using h
            omega
        unfold adjG at hi
        dsimp only at hi
        split at hi
        · split at hi <;> split at hi
          · rcases hs _ _ (by omega) (by omega) hi with h | h
            · rcases hs _ _ (by omega) (by omega) h with h | h
              · exact ih h
              · exact h
            · exact h
          · rcases hs _ _ (by omega) (by omega) hi with h | h
            · exact ih h
            · exact h
          · rcases hs _ _ (by omega) (by omega) hi with h | h
            · exact ih h
            · exact h
          · exact ih hi
        · exact ih hi
    rw [in_mem] at h
    obtain ⟨i, _, h2, rfl⟩ := h
    exact ⟨by omega, this _ (Nat.le_refl _) i h2⟩
theorem xorV_small {a b : Int} (ha : 0 ≤ a ∧ a < 64) (hb : 0 ≤ b ∧ b < 64) : 0 ≤ xorV a b ∧ xorV a b < 64 := by
  have : a.toNat ^^^ b.toNat < 2 ^ 6 := Nat.xor_lt_two_pow (by omega) (by omega)
  unfold xorV
  omega
/-- A plan leads to visits. -/
theorem runK_ok {m : Wk} (ok : WkOk m) (p : List Int) : ∀ k x l, runK m p k = some (x, l) → ∃ xn ln : Nat, x = xn ∧ l = ln ∧ (xn : Int) < m.size ∧ ln < 64
  | 0, x, l, h => by
    simp only [runK, Option.some.injEq, Prod.mk.injEq] at h
    obtain ⟨rfl, rfl⟩ := h
    have := ok.s1
    exact ⟨0, 0, rfl, rfl, by simp; omega, by omega⟩
  | k + 1, x, l, h => by
    unfold runK at h
    split at h
    · cases h
    · rename_i x0 l0 h0
      obtain ⟨xn, ln, rfl, rfl, hx, hl⟩ := runK_ok ok p k _ _ h0
      split at h
      · rename_i ha
        have hp := ok.pl xn (by have := ok.np; omega)
        obtain ⟨p0, p1⟩ := setB_true.1 hp
        have hr := act_range ok hx ha
        simp only [Option.some.injEq] at h
        unfold doP at h
        split at h
        · cases h
          obtain ⟨g0, g1⟩ := xorV_small (a := (ln : Int)) (b := m.pulls[xn]!) (by omega) (by omega)
          refine ⟨xn, (xorV ln m.pulls[xn]!).toNat, rfl, ?_, hx, by omega⟩
          simp only [Int.toNat_natCast]
          omega
        · cases h
          exact ⟨p[k]!.toNat, ln, by omega, rfl, by omega, hl⟩
      · cases h
theorem runK_none {m : Wk} {p : List Int} {k : Nat} (h : runK m p k = none) : ∀ j, runK m p (k + j) = none
  | 0 => h
  | j + 1 => by show runK m p ((k + j) + 1) = none; unfold runK; rw [runK_none h j]
end Go.KD
namespace Go.Proofs.Ytmilpahggceemaa
open Go.RowKit Go.KD
attribute [local go_sem] later_cell later_frozen
set_option maxRecDepth 100000 in
set_option maxHeartbeats 4000000 in
theorem runPlan_c (v : Value) (m : Wk) (a : Option Addr) (cap : Nat) (p : List Int) (w : World) (hm : WkAt w v m) (ok : WkOk m) (hA : IC w a p) (hl : p.length ≤ 1048576) :
    Calls Try.prog 140 #[v, .slice a p.length cap] w fun e w' => e = .returned (.tuple #[.int .i64 (runP m p).1, .int .i64 (runP m p).2.1, .bool (runP m p).2.2]) ∧ Below w.heap.size w w' := by
  have hM := hm
  obtain ⟨⟨ad, cd, ak, ck, rfl, hd, hk'⟩, nd, nk⟩ := hM
  have OK := Lib.hid ok; clear ok
  by_cases h60 : p.length ≤ 60
  case neg =>
    have g : decide ((60 : Int) < (p.length : Int)) = true := by simp; omega
    have HD : Hid (runP m p = (0, 0, false)) := by show _ = _; simp [runP, h60]
    clear h60
    go_enter Try.func140, Try.ntmps140
    go_wp2
    go_ret3
    exact ⟨ret_tup2 (by rw [HD.out] <;> rfl), by (repeat (first | exact Below.refl _ _ | apply Below.drew | apply below_drewN | (refine Below.setCell ?_ (by first | omega | (simp; done) | (simp; omega) | (dsimp only; omega)) _) | (refine Below.alloc ?_ (by first | omega | (simp; done) | (simp; omega) | (dsimp only; omega)) _)))⟩
  case pos =>
    have g : decide ((60 : Int) < (p.length : Int)) = false := by simp; omega
    go_enter Try.func140, Try.ntmps140
    go_wp2
    go_loopw [7, 8, 16] (fun x l i wr => ∃ k xn ln : Nat, k ≤ p.length ∧ i = .int .i64 k ∧ x = .int .i64 xn ∧ l = .int .i64 ln ∧ Hid (runK m p k = some ((xn : Int), (ln : Int))) ∧ (xn : Int) < m.size ∧ ln < 64 ∧ Below (w.heap.size + 1) (w.alloc (.cells #[.int .i64 m.size, .slice ad m.gates.length cd, .slice ak m.pulls.length ck] 36)) wr) (fun _ _ i _ => p.length - (intOf i).toNat)
    case atStart => exact ⟨0, 0, 0, Nat.zero_le _, rfl, rfl, rfl, rfl, by have := OK.out.s1; simp; omega, by omega, Below.refl _ _⟩
    case round =>
      obtain ⟨wo, rfl⟩ : ∃ wo : World, wo = wr := ⟨_, rfl⟩
      obtain ⟨k, xn, ln, hkl, rfl, rfl, rfl, HR, hx, hln, hb⟩ := hrel
      obtain ⟨hc, hf, hz⟩ := bcell3 hb
      simp only [World.size_alloc] at hz
      have hz1 : w.heap.size < wo.heap.size := by omega
      have HB : Hid (Below w.heap.size w wo) := (by (repeat (first | exact Below.refl _ _ | apply Below.drew | apply below_drewN | (refine Below.setCell ?_ (by first | omega | (simp; done) | (simp; omega) | (dsimp only; omega)) _) | (refine Below.alloc ?_ (by first | omega | (simp; done) | (simp; omega) | (dsimp only; omega)) _))) : Below w.heap.size w (w.alloc _)).trans (hb.mono (by omega))
      have HBo := Lib.hid hb
      by_cases hlt : k < p.length
      · obtain ⟨b, off, y, rfl, HY, hbs, e0⟩ := (hA.later HB.out).at k hlt
        have h41 := actsL_len m xn ln
        cases p1 : hasI (actsL m xn ln) y
        · have HD : Hid (runP m p = (0, 0, false)) := by
            show _ = _
            have h1 : runK m p (k + 1) = none := by unfold runK; rw [HR.out]; simp [HY.out, p1]
            have h2 := runK_none h1 (p.length - (k + 1))
            rw [show k + 1 + (p.length - (k + 1)) = p.length from by omega] at h2
            simp [runP, h2]
          go_wp2_with fail
          refine (acts_c _ m xn ln _ (hm.later HB.out) OK.out hx hln).mono ?_
          rintro e w2 ⟨u, rfl, ho, hb2⟩
          obtain ⟨au, cu, rfl, -, hi⟩ := (Own.of ho).ic
          have HI := Lib.hid hi; clear hi ho
          go_wp2_with fail
          refine (contains_c _ _ _ (actsL m xn ln) _ _ rfl HI.out (by omega)).mono ?_
          rintro e w3 ⟨rfl, rfl⟩
          rw [p1]
          go_wp2_with fail
          go_ret3
          exact ⟨ret_tup2 (by rw [HD.out] <;> rfl), below_then HB.out hb2⟩
        · have h1 : runK m p (k + 1) = some (doP m xn ln y) := by unfold runK; rw [HR.out]; simp [HY.out, p1]
          obtain ⟨x2, l2, hx2, hl2, hx3, hl3⟩ := runK_ok OK.out p (k + 1) (doP m xn ln y).1 (doP m xn ln y).2 h1
          have HX2 := Lib.hid hx2; have HL2 := Lib.hid hl2; clear hx2 hl2
          have H1 := Lib.hid h1; clear h1
          go_wp2_with fail
          refine (acts_c _ m xn ln _ (hm.later HB.out) OK.out hx hln).mono ?_
          rintro e w2 ⟨u, rfl, ho, hb2⟩
          obtain ⟨au, cu, rfl, -, hi⟩ := (Own.of ho).ic
          have HI := Lib.hid hi; clear hi ho
          have HB2 : Hid (Below w.heap.size w w2) := below_then HB.out hb2
          have hz2 := hb2.size
          have q0 : w2.cell? ⟨w.heap.size, 0, none⟩ = some (.int .i64 m.size) := by rw [hb2.cell (p := ⟨w.heap.size, 0, none⟩) hz1, HBo.out.cell (p := ⟨w.heap.size, 0, none⟩) (by simp)]; simp [go_sem]
          have q1 : w2.cell? ⟨w.heap.size, 1, none⟩ = some (.slice ad m.gates.length cd) := by rw [hb2.cell (p := ⟨w.heap.size, 1, none⟩) hz1, HBo.out.cell (p := ⟨w.heap.size, 1, none⟩) (by simp)]; simp [go_sem]
          have q2 : w2.cell? ⟨w.heap.size, 2, none⟩ = some (.slice ak m.pulls.length ck) := by rw [hb2.cell (p := ⟨w.heap.size, 2, none⟩) hz1, HBo.out.cell (p := ⟨w.heap.size, 2, none⟩) (by simp)]; simp [go_sem]
          have HB2' : Hid (Below (w.heap.size + 1) (w.alloc (.cells #[.int .i64 m.size, .slice ad m.gates.length cd, .slice ak m.pulls.length ck] 36)) w2) := HBo.out.trans (hb2.mono (by omega))
          clear hb2 hc hf
          go_wp2_with fail
          refine (contains_c _ _ _ (actsL m xn ln) _ _ rfl HI.out (by omega)).mono ?_
          rintro e w3 ⟨rfl, rfl⟩
          rw [p1]
          go_wp2_with fail
          refine (behind_c _ m xn ln y _ (hm.later HB2.out) OK.out hx hln).mono ?_
          rintro e w4 ⟨rfl, hb4⟩
          rw [HX2.out, HL2.out]
          go_wp2
          go_roundw
          case rel => exact ⟨k + 1, x2, l2, by omega, by go_num, rfl, rfl, by show _ = _; rw [H1.out, ← HX2.out, ← HL2.out], hx3, hl3, HB2'.out.trans (hb4.mono (by omega))⟩
          case measure => simp [intOf]; omega
      · obtain rfl : k = p.length := by omega
        have HD : Hid (runP m p = ((xn : Int), (ln : Int), true)) := by show _ = _; simp [runP, h60, HR.out]
        go_wp2
        go_ret3
        exact ⟨ret_tup2 (by rw [HD.out] <;> rfl), HB.out⟩
end Go.Proofs.Ytmilpahggceemaa
