/- Contracts of impl.acts, impl.behind, spec.l8Do. -/
import Derived.Test.YtldogbahbjompaaKdActs2
set_option linter.unusedVariables false
set_option linter.unusedSimpArgs false
namespace Go.Proofs.Ytldogbahbjompaa
open Go.RowKit Go.KD
attribute [local go_sem] later_cell later_frozen
set_option maxHeartbeats 4000000 in
theorem acts_c (v : Value) (m : Wk) (x l : Nat) (w : World) (hm : WkAt w v m) (ok : WkOk m) (hx : (x : Int) < m.size) (hl : l < 64) :
    Calls Try.prog 54 #[v, .int .i64 x, .int .i64 l] w fun e w' => ∃ u, e = .returned u ∧ w'.ownsRow w.heap.size 3 1 u (actsL m x l).length (ints (actsL m x l)) ∧ Below w.heap.size w w' := by
  have hM := hm
  obtain ⟨⟨ad, cd, ak, ck, rfl, hd, hk'⟩, nd, nk⟩ := hM
  have hng := ok.ng
  have hnp : x < m.pulls.length := by have := ok.np; omega
  have NL := Lib.hid (nb_lt ok x l)
  obtain ⟨s, gs, ps⟩ := m
  dsimp only at *
  have OK := Lib.hid ok; clear ok
  have hs2 : s ≤ 12 := OK.out.s2
  have hx12 : x < 12 := by omega
  go_enter Try.func54, Try.ntmps54
  go_wp2
  go_loopw [7, 13] (fun n i wr => ∃ k : Nat, k ≤ gs.length ∧ i = .int .i64 k ∧ n = .int .i64 (nbK gs x l k) ∧ Below (w.heap.size + 1) (w.alloc (.cells #[.int .i64 s, .slice ad gs.length cd, .slice ak ps.length ck] 40)) wr) (fun _ i _ => gs.length - (intOf i).toNat)
  case atStart => exact ⟨0, Nat.zero_le _, rfl, rfl, Below.refl _ _⟩
  case round =>
    obtain ⟨wo, rfl⟩ : ∃ wo : World, wo = wr := ⟨_, rfl⟩
    obtain ⟨k, hkl, rfl, rfl, hb⟩ := hrel
    obtain ⟨hc, hf, hz⟩ := bcell3 hb
    simp only [World.size_alloc] at hz
    have hz1 : w.heap.size < wo.heap.size := by omega
    have HB : Hid (Below w.heap.size w wo) := (by (repeat (first | exact Below.refl _ _ | apply Below.drew | apply below_drewN | (refine Below.setCell ?_ (by first | omega | (simp; done) | (simp; omega) | (dsimp only; omega)) _) | (refine Below.alloc ?_ (by first | omega | (simp; done) | (simp; omega) | (dsimp only; omega)) _))) : Below w.heap.size w (w.alloc _)).trans (hb.mono (by omega))
    have hn := NL.out k hkl
    have HBo := Lib.hid hb
    by_cases hlt : k < gs.length
    · obtain ⟨b, off, x0, y0, z0, u0, rfl, HX, hbs, e0, e1, e2, e3⟩ := (hd.later HB.out).at k hlt
      obtain ⟨f1, f2, f3, f4, f5, f6, f7⟩ := gate_facts OK.out hlt HX.out
      dsimp only at f3
      obtain ⟨xn, rfl⟩ := Int.eq_ofNat_of_zero_le f1
      obtain ⟨yn, rfl⟩ := Int.eq_ofNat_of_zero_le (show 0 ≤ y0 by omega)
      obtain ⟨p, HP, ep, hp⟩ := shl_at xn (by omega)
      obtain ⟨q, HQ, eq, hq⟩ := shl_at yn (by omega)
      have hx0 : (xn : Int) < 12 := by omega
      have hy0 : (yn : Int) < 12 := by omega
      obtain ⟨sN, hsN⟩ : ∃ sN, sN = nbK gs x l k := ⟨_, rfl⟩
      rw [← hsN] at hn ⊢
      have HN : Hid (nbK gs x l (k + 1) = adjG x l sN ((xn : Int), (yn : Int), z0, u0)) := by show _ = _; rw [nb_step hlt, HX.out, hsN]
      clear hsN
      obtain ⟨s1, hs1⟩ : ∃ s1, s1 = sN ||| q := ⟨_, rfl⟩
      have hs1l : s1 < 4096 := by rw [hs1]; exact Nat.or_lt_two_pow (n := 12) hn hq
      have ea : bits .or .i64 (sN : Int) (q : Int) = (s1 : Int) := by rw [hs1]; exact i64_or sN q (by omega) (by omega)
      have eb : bits .or .i64 (sN : Int) (p : Int) = ((sN ||| p : Nat) : Int) := i64_or sN p (by omega) (by omega)
      have ec : bits .or .i64 (s1 : Int) (p : Int) = ((s1 ||| p : Nat) : Int) := i64_or s1 p (by omega) (by omega)
      have HS1 := Lib.hid hs1; clear hs1
      cases po : openB ((xn : Int), (yn : Int), z0, u0) l
      · have HF : Hid (nbK gs x l (k + 1) = sN) := by show _ = _; rw [HN.out]; simp [adjG, po]
        go_wp2_with fail
        refine (isOpen_c _ ⟨s, gs, ps⟩ _ (hm.later (HB.out.alloc (by omega) _)) OK.out k l hlt hl _ HX).mono ?_
        rintro e w2 ⟨rfl, hb2⟩
        have HB2 : Hid (Below (w.heap.size + 1) (w.alloc (.cells #[.int .i64 s, .slice (some ⟨b, off, none⟩) gs.length cd, .slice ak ps.length ck] 40)) w2) := (HBo.out.alloc (by omega) _).trans (hb2.mono (by simp; omega))
        rw [po]
        go_wp2
        go_roundw
        case rel => exact ⟨k + 1, by omega, by go_num, by rw [HF.out], HB2.out⟩
        case measure => simp [intOf]; omega
      · cases p1 : ((xn : Int) == (x : Int)) <;> cases p2 : ((yn : Int) == (x : Int))
        all_goals
          have HF := HN
          go_wp2_with fail
          refine (isOpen_c _ ⟨s, gs, ps⟩ _ (hm.later (HB.out.alloc (by omega) _)) OK.out k l hlt hl _ HX).mono ?_
          rintro e w2 ⟨rfl, hb2⟩
          have HB2 : Hid (Below (w.heap.size + 1) (w.alloc (.cells #[.int .i64 s, .slice (some ⟨b, off, none⟩) gs.length cd, .slice ak ps.length ck] 40)) w2) := (HBo.out.alloc (by omega) _).trans (hb2.mono (by simp; omega))
          have k0 : w2.cell? ⟨wo.heap.size, 0, none⟩ = some (.int .i64 xn) := by rw [hb2.cell (p := ⟨wo.heap.size, 0, none⟩) (by simp)]; simp [go_sem]
          have k1 : w2.cell? ⟨wo.heap.size, 1, none⟩ = some (.int .i64 yn) := by rw [hb2.cell (p := ⟨wo.heap.size, 1, none⟩) (by simp)]; simp [go_sem]
          clear hb2 hc hf
          rw [po]
          go_wp2
          go_roundw
          case rel =>
            refine ⟨k + 1, by omega, by go_num, ?_, HB2.out⟩
            rw [HF.out]
            simp only [beq_iff_eq, beq_eq_false_iff_ne] at p1 p2
            have key : adjG (x : Int) l sN ((xn : Int), (yn : Int), z0, u0) = (if (yn : Int) = x then setN (if (xn : Int) = x then setN sN yn else sN) xn else (if (xn : Int) = x then setN sN yn else sN)) := by simp only [adjG, po, if_true]
            rw [key]
            first | rw [if_pos p2, if_pos p1] | rw [if_pos p2, if_neg p1] | rw [if_neg p2, if_pos p1] | rw [if_neg p2, if_neg p1]
            all_goals simp [setN, HS1.out, HP.out, HQ.out]
          case measure => simp [intOf]; omega
    · obtain rfl : k = gs.length := by omega
      obtain ⟨b, off, pv, rfl, HX, hbs, e0⟩ := (hk'.later HB.out).at x hnp
      have hn30 : nbK gs x l gs.length < 1073741824 := by omega
      obtain ⟨sN, hsN⟩ : ∃ sN, sN = nbK gs x l gs.length := ⟨_, rfl⟩
      rw [← hsN] at hn hn30 ⊢
      cases p0 : (pv != 0)
      · have HR : Hid (actsL ⟨s, gs, ps⟩ x l = mem sN) := by
          show _ = _
          simp only [bne_eq_false_iff_eq] at p0
          simp [actsL, HX.out, p0, hsN]
        clear hsN
        go_wp2_with fail
        refine (members_c sN hn30 _).mono ?_
        rintro e w2 ⟨v2, rfl, ho2, hb2⟩
        go_wp2_with fail
        go_ret
        exact ⟨_, rfl, by rw [HR.out]; exact (Own.mono (Own.of ho2) HB.out.size (Nat.le_refl _)).row, below_then HB.out hb2⟩
      · have HR : Hid (actsL ⟨s, gs, ps⟩ x l = [-1] ++ mem sN) := by
          show _ = _
          simp only [bne_iff_ne] at p0
          simp [actsL, HX.out, p0, hsN]
        clear hsN
        have hml : (mem sN).length ≤ 40 := by rw [mem_eq]; exact memK_len _ _
        go_wp2_with fail
        refine (members_c sN hn30 _).mono ?_
        rintro e w2 ⟨v2, rfl, ho2, hb2⟩
        obtain ⟨a2, c2, rfl, -, hc2⟩ := (Own.of ho2).ic
        have HB2 : Hid (Below w.heap.size w w2) := below_then (HB.out.alloc (by omega) _) hb2
        have i1 : IC w2 (some ⟨wo.heap.size, 0, none⟩) [-1] := by
          intro j hj
          have : j = 0 := by simpa using hj
          subst this
          exact ⟨_, _, rfl, by have := hb2.size; simp at this; omega, by rw [hb2.cell (p := ⟨wo.heap.size, 0 + 0, none⟩) (by simp)]; simp [go_sem]⟩
        have hz2 := HB2.out.size
        clear hb2 ho2
        go_wp2_with fail
        refine (concat2_c w2.heap.size _ _ 1 c2 [-1] (mem sN) _ (by simp [go_sem]) (by simp [go_sem]) (i1.later ((Below.refl _ _).alloc (Nat.le_refl _) _)) (hc2.later ((Below.refl _ _).alloc (Nat.le_refl _) _)) (by simp) (by simp) (by omega) (by simp)).mono ?_
        rintro e w4 ⟨v4, rfl, ho4, hb4⟩
        go_wp2_with fail
        go_ret
        exact ⟨_, rfl, by rw [HR.out]; exact (Own.mono (Own.of ho4) (by have := HB2.out.size; simp; omega) (Nat.le_refl _)).row, below_then (HB2.out.alloc hz2 _) hb4⟩
end Go.Proofs.Ytldogbahbjompaa
