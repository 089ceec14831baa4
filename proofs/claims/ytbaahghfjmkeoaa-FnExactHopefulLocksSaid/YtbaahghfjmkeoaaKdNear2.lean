/- Contract of l7Near. Printed by gen_near2.py. -/
import Derived.Test.YtbaahghfjmkeoaaKdNear
set_option linter.unusedVariables false
set_option linter.unusedSimpArgs false
namespace Go.KD
open Go.RowKit
/-- A sorted list of nodes in a fresh block. -/
def LM (base : Nat) (w : World) (u : Value) (X : Nat) : Prop :=
  ∃ bo oo co, u = .slice (some ⟨bo, oo, none⟩) (mem X).length co ∧ IC w (some ⟨bo, oo, none⟩) (mem X) ∧ (mem X).length ≤ co ∧ co ≤ maxLen ∧ base ≤ bo ∧ bo < w.heap.size
theorem LM.later {base : Nat} {w w' : World} {u : Value} {X : Nat} (h : LM base w u X) (hb : Below w.heap.size w w') : LM base w' u X := by
  obtain ⟨bo, oo, co, h1, h2, h3, h4, h5, h6⟩ := h
  exact ⟨bo, oo, co, h1, h2.later hb, h3, h4, h5, by have := hb.size; omega⟩
theorem memN_grow {A B : Nat} (h : SubN A B) (hne : A ≠ B) (hB : B < 4096) : (mem A).length < (mem B).length := by
  have he : memN A = (memN B).filter fun i => A.testBit i := by
    unfold memN
    rw [List.filter_filter]
    refine List.filter_congr fun i _ => ?_
    cases ha : A.testBit i
    · rfl
    · rw [h i ha]; rfl
  have hs : (memN A).Sublist (memN B) := by rw [he]; exact List.filter_sublist
  have hl := hs.length_le
  have hm : ∀ x, (mem x).length = (memN x).length := fun x => by simp [mem]
  rw [hm, hm]
  rcases Nat.lt_or_ge (memN A).length (memN B).length with h1 | h1
  · exact h1
  · exfalso
    have heq := hs.eq_of_length (by omega)
    refine hne (h.antisymm fun i hi => ?_)
    have hi12 := bit_lt (n := 12) hB hi
    have : i ∈ memN B := by unfold memN; rw [List.mem_filter]; exact ⟨List.mem_range.2 (by omega), hi⟩
    rw [← heq] at this
    unfold memN at this
    exact (List.mem_filter.1 this).2
theorem mem_len40z (x : Nat) : (mem x).length ≤ 40 := by rw [mem_eq]; exact memK_len _ _
def lenVn : Value → Nat
  | .slice _ n _ => n
  | _ => 0
end Go.KD
namespace Go.Proofs.Ytbaahghfjmkeoaa
open Go.RowKit Go.KD
attribute [local go_sem] later_cell later_frozen
set_option maxRecDepth 100000 in
set_option maxHeartbeats 16000000 in
theorem l7Near_c (v : Value) (m : Mz) (O : Nat) (aL : Option Addr) (cL : Nat) (L : List Int) (w : World) (hm : MzAt w v m) (ok : MzOk m) (hL : IC w aL L) (hLl : L.length ≤ 1048576) (hLO : ∀ k : Nat, k < m.doors.length → hasI L (k : Int) = O.testBit k) : Calls Try.prog 96 #[v, .slice aL L.length cL] w fun e w' => ∃ u, e = .returned u ∧ LM w.heap.size w' u (nearN m O) ∧ Below w.heap.size w w' := by
  have hM := hm
  obtain ⟨⟨ad, cd, ak, ck, rfl, hd, hk'⟩, nd, nk⟩ := hM
  obtain ⟨i0, ji, jz0, jz1, jz2⟩ := info_parts infoI
  have hng : m.doors.length ≤ 30 := ok.nd
  have HIN : Hid (∀ j, InM m (nearK m O j)) := fun j => nearK_in ok O j
  have HPI : Hid (∀ A k, InM m A → k ≤ m.doors.length → InM m (passK m.doors O A k)) := fun A k h hk => passK_in ok O h k hk
  have OK := Lib.hid ok; clear ok
  have HLO := Lib.hid hLO; clear hLO
  have HL0 : Hid (LM (w.heap.size + 1) ((w.alloc (.cells #[.int .i64 m.size, .slice ad m.doors.length cd, .slice ak m.keys.length ck] 29)).alloc (.cells #[.int .i64 0] 3)) (.slice (some ⟨w.heap.size + 1, 0, none⟩) 1 1) (nearK m O 0)) := by
    have h1 : mem (nearK m O 0) = [0] := by show mem 1 = [0]; decide
    refine ⟨w.heap.size + 1, 0, 1, by rw [h1]; rfl, ?_, by rw [h1]; simp, by unfold maxLen; omega, Nat.le_refl _, (by first | omega | (simp; done) | (simp; omega) | (dsimp only; omega))⟩
    rw [h1]
    exact ic_lit _ _ _ _ _ (by simp) rfl
  go_enter Try.func96, Try.ntmps96
  go_wp2
  go_loopw [5, 6] (fun o a wr => ∃ (j : Nat) (b : Bool), LM (w.heap.size + 1) wr o (nearK m O j) ∧ a = .bool b ∧ Hid (b = false → passN m O (nearK m O j) = nearK m O j) ∧ Hid (j ≤ nearK m O j) ∧ Below (w.heap.size + 1) (w.alloc (.cells #[.int .i64 m.size, .slice ad m.doors.length cd, .slice ak m.keys.length ck] 29)) wr) (fun o a _ => 2 * (40 - lenVn o) + againV a)
  case atStart => exact ⟨0, true, HL0.out, rfl, (fun h => by cases h), Nat.zero_le _, (Below.refl _ _).alloc (by simp) _⟩
  case round =>
    obtain ⟨wo, rfl⟩ : ∃ wo : World, wo = wr := ⟨_, rfl⟩
    obtain ⟨j, b, hlm, rfl, HB0, HJ, hb⟩ := hrel
    have HLM := Lib.hid hlm
    obtain ⟨bo0, oo0, co0, rfl, -⟩ := hlm
    have HBo := Lib.hid hb
    have HAI := Lib.hid (HIN.out j)
    have hA := (HIN.out j).lt OK.out
    obtain ⟨q0, q1, q2, z1⟩ := box3 hb (by omega)
    clear hb HL0
    cases b
    case false =>
      have HE : Hid (nearN m O = nearK m O j) := nearN_eq (by have := HJ.out; omega) (HB0.out rfl)
      obtain ⟨bo, oo, co, h1, h2, h3, h4, h5, h6⟩ := HLM.out
      have HF : Hid (LM w.heap.size wo (.slice (some ⟨bo0, oo0, none⟩) (mem (nearK m O j)).length co0) (nearN m O)) := by rw [HE.out]; exact ⟨bo, oo, co, h1, h2, h3, h4, by omega, h6⟩
      clear h1 h2 h3 h4 h5 h6
      go_wp2
      go_ret
      exact ⟨_, rfl, HF.out, below_box HBo.out (by omega)⟩
    case true =>
      have HNX : Hid (passN m O (nearK m O j) = nearK m O (j + 1)) := rfl
      have HPN : Hid (passK m.doors O (nearK m O j) m.doors.length = passN m O (nearK m O j)) := rfl
      have HPS : Hid (SubN (nearK m O j) (passN m O (nearK m O j))) := passK_sub m.doors O (nearK m O j) m.doors.length
      have hl40 := mem_len40z (nearK m O j)
      obtain ⟨A, hAe⟩ : ∃ A, A = nearK m O j := ⟨_, rfl⟩
      rw [← hAe] at HAI hA HNX HPN HPS HJ HLM hl40 ⊢
      have HAE := Lib.hid hAe
      clear hAe HB0
      go_wp2
      go_loopw [5, 6, 7] (fun o a i wr => ∃ k : Nat, k ≤ m.doors.length ∧ i = .int .i64 k ∧ LM (w.heap.size + 1) wr o (passK m.doors O A k) ∧ a = .bool (decide (passK m.doors O A k ≠ A)) ∧ Below (w.heap.size + 1) (w.alloc (.cells #[.int .i64 m.size, .slice ad m.doors.length cd, .slice ak m.keys.length ck] 29)) wr) (fun _ _ i _ => m.doors.length - (intOf i).toNat)
      case atStart => exact ⟨0, Nat.zero_le _, rfl, HLM.out, by simp [passK], HBo.out⟩
      case round =>
        obtain ⟨wi, rfl⟩ : ∃ wi : World, wi = wr := ⟨_, rfl⟩
        obtain ⟨k, hk, rfl, hlm, rfl, hb⟩ := hrel
        have HBi := Lib.hid hb
        have HBw := Lib.hid (below_box hb (by omega))
        have hzi := hb.size
        simp only [World.size_alloc] at hzi
        clear q0 q1 q2
        obtain ⟨q0, q1, q2, z3⟩ := box3 hb (by omega)
        clear hb
        have hc := (HPI.out A k HAI.out hk).lt OK.out
        by_cases hlt : k < m.doors.length
        · have hkI : (k : Int) < (m.doors.length : Int) := by omega
          obtain ⟨b, off, x0, y0, z0, hadx, HX, hbs, e0, e1, e2⟩ := (hd.later HBw.out).at k hlt
          subst hadx
          obtain ⟨f1, f2, f3, f4, f5⟩ := door_facts OK.out hlt HX.out
          obtain ⟨xn, rfl⟩ := Int.eq_ofNat_of_zero_le f1
          obtain ⟨yn, rfl⟩ := Int.eq_ofNat_of_zero_le (show 0 ≤ y0 by omega)
          obtain ⟨zn, rfl⟩ := Int.eq_ofNat_of_zero_le f4
          have hs2 : m.size ≤ 12 := OK.out.s2
          have hx0 : (xn : Int) < 12 := by omega
          have hy0 : (yn : Int) < 12 := by omega
          have HN : Hid (passK m.doors O A (k + 1) = if (decide ((zn : Int) = 0) || O.testBit k) && ((passK m.doors O A k).testBit xn != (passK m.doors O A k).testBit yn) then passK m.doors O A k ||| 2 ^ xn ||| 2 ^ yn else passK m.doors O A k) := nearD_eq HX.out
          have HGR : Hid (passK m.doors O A (k + 1) ≠ passK m.doors O A k → passK m.doors O A (k + 1) ≠ A) := passK_grew
          have HG2 : Hid (((passK m.doors O A k).testBit xn != (passK m.doors O A k).testBit yn) = true → passK m.doors O A k ||| 2 ^ xn ||| 2 ^ yn ≠ passK m.doors O A k) := grew_two
          have HLK : Hid (hasI L (k : Int) = O.testBit k) := HLO.out k hlt
          have HHX : Hid (hasI (mem (passK m.doors O A k)) (xn : Int) = (passK m.doors O A k).testBit xn) := hasI_bitZ hc
          have HHY : Hid (hasI (mem (passK m.doors O A k)) (yn : Int) = (passK m.doors O A k).testBit yn) := hasI_bitZ hc
          have HP1 : Hid (putL (mem (passK m.doors O A k)) (xn : Int) = mem (passK m.doors O A k ||| 2 ^ xn)) := put_memZ (by omega)
          have HP2 : Hid (putL (mem (passK m.doors O A k ||| 2 ^ xn)) (yn : Int) = mem (passK m.doors O A k ||| 2 ^ xn ||| 2 ^ yn)) := put_memZ (by omega)
          have h40 := mem_len40z (passK m.doors O A k)
          have h41 := mem_len40z (passK m.doors O A k ||| 2 ^ xn)
          have h42 := mem_len40z (passK m.doors O A k ||| 2 ^ xn ||| 2 ^ yn)
          obtain ⟨c, hce⟩ : ∃ c, c = passK m.doors O A k := ⟨_, rfl⟩
          rw [← hce] at hc HN HGR HG2 HHX HHY HP1 HP2 h40 h41 h42 hlm ⊢
          have HCE := Lib.hid hce
          clear hce
          obtain ⟨c1, hc1⟩ : ∃ c1, c1 = c ||| 2 ^ xn := ⟨_, rfl⟩
          rw [← hc1] at HN HG2 HP1 HP2 h41 h42
          obtain ⟨c2, hc2⟩ : ∃ c2, c2 = c1 ||| 2 ^ yn := ⟨_, rfl⟩
          rw [← hc2] at HN HG2 HP2 h42
          have HC1 := Lib.hid hc1
          clear hc1 hc2
          obtain ⟨pa, hpa⟩ : ∃ pa, pa = c.testBit xn := ⟨_, rfl⟩
          obtain ⟨pb, hpb⟩ : ∃ pb, pb = c.testBit yn := ⟨_, rfl⟩
          rw [← hpa, ← hpb] at HN HG2
          rw [← hpa] at HHX
          rw [← hpb] at HHY
          obtain ⟨ob, hob⟩ : ∃ ob, ob = O.testBit k := ⟨_, rfl⟩
          rw [← hob] at HN HLK
          clear hpa hpb hob
          obtain ⟨bo, oo, co, rfl, hio, hlc, hcm, hbb, hbo⟩ := hlm
          have HIO := Lib.hid hio
          have hLw := Lib.hid (hL.later HBw.out)
          clear hio
          have hzw : w.heap.size + 1 ≤ wi.heap.size := by omega
          have hbox : Hid (∀ W, Below wi.heap.size wi W → Below (w.heap.size + 1) (w.alloc (.cells #[.int .i64 m.size, .slice (some ⟨b, off, none⟩) m.doors.length cd, .slice ak m.keys.length ck] 29)) W) := fun W hW => HBi.out.trans (hW.mono hzw)
          have HLMi : Hid (∀ W, Below wi.heap.size wi W → LM (w.heap.size + 1) W (.slice (some ⟨bo, oo, none⟩) (mem c).length co) c) := fun W hW => LM.later ⟨bo, oo, co, rfl, HIO.out, hlc, hcm, hbb, hbo⟩ hW
          by_cases hz0 : zn = 0
          case pos =>
            subst hz0
            cases pa
            case false =>
              cases pb
              case false =>
                have HS : Hid (passK m.doors O A (k + 1) = c) := by show _ = _; rw [HN.out]; simp
                have HDC : Hid ((!decide (c = A)) = decide (passK m.doors O A (k + 1) ≠ A)) := by show _ = _; rw [HS.out]; simp
                go_wp2
                go_quiet (fail)
                go_wp2_with fail
                refine (l1Has_c _ _ _ (mem c) _ _ rfl (HIO.out.later (by (repeat (first | exact Below.refl _ _ | apply Below.drew | apply below_drewN | (refine Below.setCell ?_ (by first | omega | (simp; done) | (simp; omega) | (dsimp only; omega)) _) | (refine Below.alloc ?_ (by first | omega | (simp; done) | (simp; omega) | (dsimp only; omega)) _))))) (by omega)).mono ?_
                rintro e w4 ⟨rfl, rfl⟩
                rw [HHX.out]
                go_wp2_with fail
                refine (l1Has_c _ _ _ (mem c) _ _ rfl (HIO.out.later (by (repeat (first | exact Below.refl _ _ | apply Below.drew | apply below_drewN | (refine Below.setCell ?_ (by first | omega | (simp; done) | (simp; omega) | (dsimp only; omega)) _) | (refine Below.alloc ?_ (by first | omega | (simp; done) | (simp; omega) | (dsimp only; omega)) _))))) (by omega)).mono ?_
                rintro e w4 ⟨rfl, rfl⟩
                rw [HHY.out]
                go_wp2_with fail
                go_roundw
                case rel => exact ⟨k + 1, by omega, by go_num, by rw [HS.out]; exact HLMi.out _ (by (repeat (first | exact Below.refl _ _ | apply Below.drew | apply below_drewN | (refine Below.setCell ?_ (by first | omega | (simp; done) | (simp; omega) | (dsimp only; omega)) _) | (refine Below.alloc ?_ (by first | omega | (simp; done) | (simp; omega) | (dsimp only; omega)) _)))), by first | exact congrArg Value.bool HDC.out | rw [HS.out], hbox.out _ (by (repeat (first | exact Below.refl _ _ | apply Below.drew | apply below_drewN | (refine Below.setCell ?_ (by first | omega | (simp; done) | (simp; omega) | (dsimp only; omega)) _) | (refine Below.alloc ?_ (by first | omega | (simp; done) | (simp; omega) | (dsimp only; omega)) _))))⟩
                case measure => simp [intOf]; omega
              case true =>
                have HS : Hid (passK m.doors O A (k + 1) = c2) := by show _ = _; rw [HN.out]; simp
                have HNE : Hid (c2 ≠ A) := by
                  have h1 := HG2.out rfl
                  have h2 := HGR.out (by rw [HS.out]; exact h1)
                  rw [HS.out] at h2; exact h2
                have HDC : Hid (decide (c2 ≠ A) = true) := decide_eq_true HNE.out
                go_wp2
                go_quiet (fail)
                go_wp2_with fail
                refine (l1Has_c _ _ _ (mem c) _ _ rfl (HIO.out.later (by (repeat (first | exact Below.refl _ _ | apply Below.drew | apply below_drewN | (refine Below.setCell ?_ (by first | omega | (simp; done) | (simp; omega) | (dsimp only; omega)) _) | (refine Below.alloc ?_ (by first | omega | (simp; done) | (simp; omega) | (dsimp only; omega)) _))))) (by omega)).mono ?_
                rintro e w4 ⟨rfl, rfl⟩
                rw [HHX.out]
                go_wp2_with fail
                refine (l1Has_c _ _ _ (mem c) _ _ rfl (HIO.out.later (by (repeat (first | exact Below.refl _ _ | apply Below.drew | apply below_drewN | (refine Below.setCell ?_ (by first | omega | (simp; done) | (simp; omega) | (dsimp only; omega)) _) | (refine Below.alloc ?_ (by first | omega | (simp; done) | (simp; omega) | (dsimp only; omega)) _))))) (by omega)).mono ?_
                rintro e w4 ⟨rfl, rfl⟩
                rw [HHY.out]
                go_wp2_with fail
                refine (l1PutB_c bo oo co (mem c) xn _ (HIO.out.later (by (repeat (first | exact Below.refl _ _ | apply Below.drew | apply below_drewN | (refine Below.setCell ?_ (by first | omega | (simp; done) | (simp; omega) | (dsimp only; omega)) _) | (refine Below.alloc ?_ (by first | omega | (simp; done) | (simp; omega) | (dsimp only; omega)) _))))) (by omega) hlc hcm).mono ?_
                rintro e w4 ⟨b4, o4, c4, rfl, hi4, hl4, hm4, hb4, hfr4⟩
                rw [HP1.out] at hi4 hl4 ⊢
                have hb4' : Below wi.heap.size wi w4 := (below_drewN (Below.refl _ _) _).trans hb4
                have hz4 := hb4'.size
                have hbo4 : b4 < w4.heap.size := by
                  obtain ⟨b', o', he', hbs', -⟩ := hi4 0 (by have : (xn : Int) ∈ mem c1 := (in_mem _ _).2 ⟨xn, by omega, by rw [HC1.out, Nat.testBit_or, Nat.testBit_two_pow]; simp, rfl⟩; exact List.length_pos_of_mem this)
                  cases he'; exact hbs'
                have hba4 : w.heap.size + 1 ≤ b4 := by
                  rcases hfr4 with h | h
                  · omega
                  · have : wi.heap.size ≤ b4 := h
                    omega
                have HI4 := Lib.hid hi4
                have HB4 := Lib.hid hb4'
                clear hi4 hb4 hb4' hfr4
                go_wp2_with fail
                refine (l1PutB_c b4 o4 c4 (mem c1) yn _ HI4.out (by omega) hl4 hm4).mono ?_
                rintro e w5 ⟨b5, o5, c5, rfl, hi5, hl5, hm5, hb5, hfr5⟩
                rw [HP2.out] at hi5 hl5 ⊢
                have hz5 := hb5.size
                have HB5 : Hid (Below wi.heap.size wi w5) := HB4.out.trans (hb5.mono hz4)
                have HL5 : Hid (LM (w.heap.size + 1) w5 (.slice (some ⟨b5, o5, none⟩) (mem c2).length c5) c2) := by
                  have hba5 : w.heap.size + 1 ≤ b5 := by
                    rcases hfr5 with h | h <;> omega
                  refine ⟨b5, o5, c5, rfl, hi5, hl5, hm5, hba5, ?_⟩
                  rcases hfr5 with h | h
                  · omega
                  · have hp : 0 < (mem c2).length := by
                      have h1 : ∀ l : List Int, ∀ x, 0 < (putL l x).length := by
                        intro l x
                        cases l with
                        | nil => simp [putL]
                        | cons a l => unfold putL; split <;> (try split) <;> simp
                      rw [← HP2.out]; exact h1 _ _
                    obtain ⟨b', o', he', hbs', -⟩ := hi5 0 hp
                    cases he'; exact hbs'
                clear hi5 hb5 hfr5
                go_wp2
                go_roundw
                case rel => exact ⟨k + 1, by omega, by go_num, by rw [HS.out]; exact HL5.out, by rw [HS.out, HDC.out], hbox.out _ HB5.out⟩
                case measure => simp [intOf]; omega
            case true =>
              cases pb
              case false =>
                have HS : Hid (passK m.doors O A (k + 1) = c2) := by show _ = _; rw [HN.out]; simp
                have HNE : Hid (c2 ≠ A) := by
                  have h1 := HG2.out rfl
                  have h2 := HGR.out (by rw [HS.out]; exact h1)
                  rw [HS.out] at h2; exact h2
                have HDC : Hid (decide (c2 ≠ A) = true) := decide_eq_true HNE.out
                go_wp2
                go_quiet (fail)
                go_wp2_with fail
                refine (l1Has_c _ _ _ (mem c) _ _ rfl (HIO.out.later (by (repeat (first | exact Below.refl _ _ | apply Below.drew | apply below_drewN | (refine Below.setCell ?_ (by first | omega | (simp; done) | (simp; omega) | (dsimp only; omega)) _) | (refine Below.alloc ?_ (by first | omega | (simp; done) | (simp; omega) | (dsimp only; omega)) _))))) (by omega)).mono ?_
                rintro e w4 ⟨rfl, rfl⟩
                rw [HHX.out]
                go_wp2_with fail
                refine (l1Has_c _ _ _ (mem c) _ _ rfl (HIO.out.later (by (repeat (first | exact Below.refl _ _ | apply Below.drew | apply below_drewN | (refine Below.setCell ?_ (by first | omega | (simp; done) | (simp; omega) | (dsimp only; omega)) _) | (refine Below.alloc ?_ (by first | omega | (simp; done) | (simp; omega) | (dsimp only; omega)) _))))) (by omega)).mono ?_
                rintro e w4 ⟨rfl, rfl⟩
                rw [HHY.out]
                go_wp2_with fail
                refine (l1PutB_c bo oo co (mem c) xn _ (HIO.out.later (by (repeat (first | exact Below.refl _ _ | apply Below.drew | apply below_drewN | (refine Below.setCell ?_ (by first | omega | (simp; done) | (simp; omega) | (dsimp only; omega)) _) | (refine Below.alloc ?_ (by first | omega | (simp; done) | (simp; omega) | (dsimp only; omega)) _))))) (by omega) hlc hcm).mono ?_
                rintro e w4 ⟨b4, o4, c4, rfl, hi4, hl4, hm4, hb4, hfr4⟩
                rw [HP1.out] at hi4 hl4 ⊢
                have hb4' : Below wi.heap.size wi w4 := (below_drewN (Below.refl _ _) _).trans hb4
                have hz4 := hb4'.size
                have hbo4 : b4 < w4.heap.size := by
                  obtain ⟨b', o', he', hbs', -⟩ := hi4 0 (by have : (xn : Int) ∈ mem c1 := (in_mem _ _).2 ⟨xn, by omega, by rw [HC1.out, Nat.testBit_or, Nat.testBit_two_pow]; simp, rfl⟩; exact List.length_pos_of_mem this)
                  cases he'; exact hbs'
                have hba4 : w.heap.size + 1 ≤ b4 := by
                  rcases hfr4 with h | h
                  · omega
                  · have : wi.heap.size ≤ b4 := h
                    omega
                have HI4 := Lib.hid hi4
                have HB4 := Lib.hid hb4'
                clear hi4 hb4 hb4' hfr4
                go_wp2_with fail
                refine (l1PutB_c b4 o4 c4 (mem c1) yn _ HI4.out (by omega) hl4 hm4).mono ?_
                rintro e w5 ⟨b5, o5, c5, rfl, hi5, hl5, hm5, hb5, hfr5⟩
                rw [HP2.out] at hi5 hl5 ⊢
                have hz5 := hb5.size
                have HB5 : Hid (Below wi.heap.size wi w5) := HB4.out.trans (hb5.mono hz4)
                have HL5 : Hid (LM (w.heap.size + 1) w5 (.slice (some ⟨b5, o5, none⟩) (mem c2).length c5) c2) := by
                  have hba5 : w.heap.size + 1 ≤ b5 := by
                    rcases hfr5 with h | h <;> omega
                  refine ⟨b5, o5, c5, rfl, hi5, hl5, hm5, hba5, ?_⟩
                  rcases hfr5 with h | h
                  · omega
                  · have hp : 0 < (mem c2).length := by
                      have h1 : ∀ l : List Int, ∀ x, 0 < (putL l x).length := by
                        intro l x
                        cases l with
                        | nil => simp [putL]
                        | cons a l => unfold putL; split <;> (try split) <;> simp
                      rw [← HP2.out]; exact h1 _ _
                    obtain ⟨b', o', he', hbs', -⟩ := hi5 0 hp
                    cases he'; exact hbs'
                clear hi5 hb5 hfr5
                go_wp2
                go_roundw
                case rel => exact ⟨k + 1, by omega, by go_num, by rw [HS.out]; exact HL5.out, by rw [HS.out, HDC.out], hbox.out _ HB5.out⟩
                case measure => simp [intOf]; omega
              case true =>
                have HS : Hid (passK m.doors O A (k + 1) = c) := by show _ = _; rw [HN.out]; simp
                have HDC : Hid ((!decide (c = A)) = decide (passK m.doors O A (k + 1) ≠ A)) := by show _ = _; rw [HS.out]; simp
                go_wp2
                go_quiet (fail)
                go_wp2_with fail
                refine (l1Has_c _ _ _ (mem c) _ _ rfl (HIO.out.later (by (repeat (first | exact Below.refl _ _ | apply Below.drew | apply below_drewN | (refine Below.setCell ?_ (by first | omega | (simp; done) | (simp; omega) | (dsimp only; omega)) _) | (refine Below.alloc ?_ (by first | omega | (simp; done) | (simp; omega) | (dsimp only; omega)) _))))) (by omega)).mono ?_
                rintro e w4 ⟨rfl, rfl⟩
                rw [HHX.out]
                go_wp2_with fail
                refine (l1Has_c _ _ _ (mem c) _ _ rfl (HIO.out.later (by (repeat (first | exact Below.refl _ _ | apply Below.drew | apply below_drewN | (refine Below.setCell ?_ (by first | omega | (simp; done) | (simp; omega) | (dsimp only; omega)) _) | (refine Below.alloc ?_ (by first | omega | (simp; done) | (simp; omega) | (dsimp only; omega)) _))))) (by omega)).mono ?_
                rintro e w4 ⟨rfl, rfl⟩
                rw [HHY.out]
                go_wp2_with fail
                go_roundw
                case rel => exact ⟨k + 1, by omega, by go_num, by rw [HS.out]; exact HLMi.out _ (by (repeat (first | exact Below.refl _ _ | apply Below.drew | apply below_drewN | (refine Below.setCell ?_ (by first | omega | (simp; done) | (simp; omega) | (dsimp only; omega)) _) | (refine Below.alloc ?_ (by first | omega | (simp; done) | (simp; omega) | (dsimp only; omega)) _)))), by first | exact congrArg Value.bool HDC.out | rw [HS.out], hbox.out _ (by (repeat (first | exact Below.refl _ _ | apply Below.drew | apply below_drewN | (refine Below.setCell ?_ (by first | omega | (simp; done) | (simp; omega) | (dsimp only; omega)) _) | (refine Below.alloc ?_ (by first | omega | (simp; done) | (simp; omega) | (dsimp only; omega)) _))))⟩
                case measure => simp [intOf]; omega
          case neg =>
            have hzI : (zn : Int) ≠ 0 := by omega
            have HZN := Lib.hid hz0
            clear hz0
            cases ob
            case false =>
              have HS : Hid (passK m.doors O A (k + 1) = c) := by show _ = _; rw [HN.out]; simp [HZN.out]
              have HDC : Hid ((!decide (c = A)) = decide (passK m.doors O A (k + 1) ≠ A)) := by show _ = _; rw [HS.out]; simp
              go_wp2
              go_quiet (fail)
              go_wp2_with fail
              refine (l1Has_c _ _ _ L _ _ rfl (hLw.out.later (by (repeat (first | exact Below.refl _ _ | apply Below.drew | apply below_drewN | (refine Below.setCell ?_ (by first | omega | (simp; done) | (simp; omega) | (dsimp only; omega)) _) | (refine Below.alloc ?_ (by first | omega | (simp; done) | (simp; omega) | (dsimp only; omega)) _))))) hLl).mono ?_
              rintro e w4 ⟨rfl, rfl⟩
              rw [HLK.out]
              go_wp2_with fail
              go_roundw
              case rel => exact ⟨k + 1, by omega, by go_num, by rw [HS.out]; exact HLMi.out _ (by (repeat (first | exact Below.refl _ _ | apply Below.drew | apply below_drewN | (refine Below.setCell ?_ (by first | omega | (simp; done) | (simp; omega) | (dsimp only; omega)) _) | (refine Below.alloc ?_ (by first | omega | (simp; done) | (simp; omega) | (dsimp only; omega)) _)))), by first | exact congrArg Value.bool HDC.out | rw [HS.out], hbox.out _ (by (repeat (first | exact Below.refl _ _ | apply Below.drew | apply below_drewN | (refine Below.setCell ?_ (by first | omega | (simp; done) | (simp; omega) | (dsimp only; omega)) _) | (refine Below.alloc ?_ (by first | omega | (simp; done) | (simp; omega) | (dsimp only; omega)) _))))⟩
              case measure => simp [intOf]; omega
            case true =>
              cases pa
              case false =>
                cases pb
                case false =>
                  have HS : Hid (passK m.doors O A (k + 1) = c) := by show _ = _; rw [HN.out]; simp [HZN.out]
                  have HDC : Hid ((!decide (c = A)) = decide (passK m.doors O A (k + 1) ≠ A)) := by show _ = _; rw [HS.out]; simp
                  go_wp2
                  go_quiet (fail)
                  go_wp2_with fail
                  refine (l1Has_c _ _ _ L _ _ rfl (hLw.out.later (by (repeat (first | exact Below.refl _ _ | apply Below.drew | apply below_drewN | (refine Below.setCell ?_ (by first | omega | (simp; done) | (simp; omega) | (dsimp only; omega)) _) | (refine Below.alloc ?_ (by first | omega | (simp; done) | (simp; omega) | (dsimp only; omega)) _))))) hLl).mono ?_
                  rintro e w4 ⟨rfl, rfl⟩
                  rw [HLK.out]
                  go_wp2_with fail
                  refine (l1Has_c _ _ _ (mem c) _ _ rfl (HIO.out.later (by (repeat (first | exact Below.refl _ _ | apply Below.drew | apply below_drewN | (refine Below.setCell ?_ (by first | omega | (simp; done) | (simp; omega) | (dsimp only; omega)) _) | (refine Below.alloc ?_ (by first | omega | (simp; done) | (simp; omega) | (dsimp only; omega)) _))))) (by omega)).mono ?_
                  rintro e w4 ⟨rfl, rfl⟩
                  rw [HHX.out]
                  go_wp2_with fail
                  refine (l1Has_c _ _ _ (mem c) _ _ rfl (HIO.out.later (by (repeat (first | exact Below.refl _ _ | apply Below.drew | apply below_drewN | (refine Below.setCell ?_ (by first | omega | (simp; done) | (simp; omega) | (dsimp only; omega)) _) | (refine Below.alloc ?_ (by first | omega | (simp; done) | (simp; omega) | (dsimp only; omega)) _))))) (by omega)).mono ?_
                  rintro e w4 ⟨rfl, rfl⟩
                  rw [HHY.out]
                  go_wp2_with fail
                  go_roundw
                  case rel => exact ⟨k + 1, by omega, by go_num, by rw [HS.out]; exact HLMi.out _ (by (repeat (first | exact Below.refl _ _ | apply Below.drew | apply below_drewN | (refine Below.setCell ?_ (by first | omega | (simp; done) | (simp; omega) | (dsimp only; omega)) _) | (refine Below.alloc ?_ (by first | omega | (simp; done) | (simp; omega) | (dsimp only; omega)) _)))), by first | exact congrArg Value.bool HDC.out | rw [HS.out], hbox.out _ (by (repeat (first | exact Below.refl _ _ | apply Below.drew | apply below_drewN | (refine Below.setCell ?_ (by first | omega | (simp; done) | (simp; omega) | (dsimp only; omega)) _) | (refine Below.alloc ?_ (by first | omega | (simp; done) | (simp; omega) | (dsimp only; omega)) _))))⟩
                  case measure => simp [intOf]; omega
                case true =>
                  have HS : Hid (passK m.doors O A (k + 1) = c2) := by show _ = _; rw [HN.out]; simp [HZN.out]
                  have HNE : Hid (c2 ≠ A) := by
                    have h1 := HG2.out rfl
                    have h2 := HGR.out (by rw [HS.out]; exact h1)
                    rw [HS.out] at h2; exact h2
                  have HDC : Hid (decide (c2 ≠ A) = true) := decide_eq_true HNE.out
                  go_wp2
                  go_quiet (fail)
                  go_wp2_with fail
                  refine (l1Has_c _ _ _ L _ _ rfl (hLw.out.later (by (repeat (first | exact Below.refl _ _ | apply Below.drew | apply below_drewN | (refine Below.setCell ?_ (by first | omega | (simp; done) | (simp; omega) | (dsimp only; omega)) _) | (refine Below.alloc ?_ (by first | omega | (simp; done) | (simp; omega) | (dsimp only; omega)) _))))) hLl).mono ?_
                  rintro e w4 ⟨rfl, rfl⟩
                  rw [HLK.out]
                  go_wp2_with fail
                  refine (l1Has_c _ _ _ (mem c) _ _ rfl (HIO.out.later (by (repeat (first | exact Below.refl _ _ | apply Below.drew | apply below_drewN | (refine Below.setCell ?_ (by first | omega | (simp; done) | (simp; omega) | (dsimp only; omega)) _) | (refine Below.alloc ?_ (by first | omega | (simp; done) | (simp; omega) | (dsimp only; omega)) _))))) (by omega)).mono ?_
                  rintro e w4 ⟨rfl, rfl⟩
                  rw [HHX.out]
                  go_wp2_with fail
                  refine (l1Has_c _ _ _ (mem c) _ _ rfl (HIO.out.later (by (repeat (first | exact Below.refl _ _ | apply Below.drew | apply below_drewN | (refine Below.setCell ?_ (by first | omega | (simp; done) | (simp; omega) | (dsimp only; omega)) _) | (refine Below.alloc ?_ (by first | omega | (simp; done) | (simp; omega) | (dsimp only; omega)) _))))) (by omega)).mono ?_
                  rintro e w4 ⟨rfl, rfl⟩
                  rw [HHY.out]
                  go_wp2_with fail
                  refine (l1PutB_c bo oo co (mem c) xn _ (HIO.out.later (by (repeat (first | exact Below.refl _ _ | apply Below.drew | apply below_drewN | (refine Below.setCell ?_ (by first | omega | (simp; done) | (simp; omega) | (dsimp only; omega)) _) | (refine Below.alloc ?_ (by first | omega | (simp; done) | (simp; omega) | (dsimp only; omega)) _))))) (by omega) hlc hcm).mono ?_
                  rintro e w4 ⟨b4, o4, c4, rfl, hi4, hl4, hm4, hb4, hfr4⟩
                  rw [HP1.out] at hi4 hl4 ⊢
                  have hb4' : Below wi.heap.size wi w4 := (below_drewN (Below.refl _ _) _).trans hb4
                  have hz4 := hb4'.size
                  have hbo4 : b4 < w4.heap.size := by
                    obtain ⟨b', o', he', hbs', -⟩ := hi4 0 (by have : (xn : Int) ∈ mem c1 := (in_mem _ _).2 ⟨xn, by omega, by rw [HC1.out, Nat.testBit_or, Nat.testBit_two_pow]; simp, rfl⟩; exact List.length_pos_of_mem this)
                    cases he'; exact hbs'
                  have hba4 : w.heap.size + 1 ≤ b4 := by
                    rcases hfr4 with h | h
                    · omega
                    · have : wi.heap.size ≤ b4 := h
                      omega
                  have HI4 := Lib.hid hi4
                  have HB4 := Lib.hid hb4'
                  clear hi4 hb4 hb4' hfr4
                  go_wp2_with fail
                  refine (l1PutB_c b4 o4 c4 (mem c1) yn _ HI4.out (by omega) hl4 hm4).mono ?_
                  rintro e w5 ⟨b5, o5, c5, rfl, hi5, hl5, hm5, hb5, hfr5⟩
                  rw [HP2.out] at hi5 hl5 ⊢
                  have hz5 := hb5.size
                  have HB5 : Hid (Below wi.heap.size wi w5) := HB4.out.trans (hb5.mono hz4)
                  have HL5 : Hid (LM (w.heap.size + 1) w5 (.slice (some ⟨b5, o5, none⟩) (mem c2).length c5) c2) := by
                    have hba5 : w.heap.size + 1 ≤ b5 := by
                      rcases hfr5 with h | h <;> omega
                    refine ⟨b5, o5, c5, rfl, hi5, hl5, hm5, hba5, ?_⟩
                    rcases hfr5 with h | h
                    · omega
                    · have hp : 0 < (mem c2).length := by
                        have h1 : ∀ l : List Int, ∀ x, 0 < (putL l x).length := by
                          intro l x
                          cases l with
                          | nil => simp [putL]
                          | cons a l => unfold putL; split <;> (try split) <;> simp
                        rw [← HP2.out]; exact h1 _ _
                      obtain ⟨b', o', he', hbs', -⟩ := hi5 0 hp
                      cases he'; exact hbs'
                  clear hi5 hb5 hfr5
                  go_wp2
                  go_roundw
                  case rel => exact ⟨k + 1, by omega, by go_num, by rw [HS.out]; exact HL5.out, by rw [HS.out, HDC.out], hbox.out _ HB5.out⟩
                  case measure => simp [intOf]; omega
              case true =>
                cases pb
                case false =>
                  have HS : Hid (passK m.doors O A (k + 1) = c2) := by show _ = _; rw [HN.out]; simp [HZN.out]
                  have HNE : Hid (c2 ≠ A) := by
                    have h1 := HG2.out rfl
                    have h2 := HGR.out (by rw [HS.out]; exact h1)
                    rw [HS.out] at h2; exact h2
                  have HDC : Hid (decide (c2 ≠ A) = true) := decide_eq_true HNE.out
                  go_wp2
                  go_quiet (fail)
                  go_wp2_with fail
                  refine (l1Has_c _ _ _ L _ _ rfl (hLw.out.later (by (repeat (first | exact Below.refl _ _ | apply Below.drew | apply below_drewN | (refine Below.setCell ?_ (by first | omega | (simp; done) | (simp; omega) | (dsimp only; omega)) _) | (refine Below.alloc ?_ (by first | omega | (simp; done) | (simp; omega) | (dsimp only; omega)) _))))) hLl).mono ?_
                  rintro e w4 ⟨rfl, rfl⟩
                  rw [HLK.out]
                  go_wp2_with fail
                  refine (l1Has_c _ _ _ (mem c) _ _ rfl (HIO.out.later (by (repeat (first | exact Below.refl _ _ | apply Below.drew | apply below_drewN | (refine Below.setCell ?_ (by first | omega | (simp; done) | (simp; omega) | (dsimp only; omega)) _) | (refine Below.alloc ?_ (by first | omega | (simp; done) | (simp; omega) | (dsimp only; omega)) _))))) (by omega)).mono ?_
                  rintro e w4 ⟨rfl, rfl⟩
                  rw [HHX.out]
                  go_wp2_with fail
                  refine (l1Has_c _ _ _ (mem c) _ _ rfl (HIO.out.later (by (repeat (first | exact Below.refl _ _ | apply Below.drew | apply below_drewN | (refine Below.setCell ?_ (by first | omega | (simp; done) | (simp; omega) | (dsimp only; omega)) _) | (refine Below.alloc ?_ (by first | omega | (simp; done) | (simp; omega) | (dsimp only; omega)) _))))) (by omega)).mono ?_
                  rintro e w4 ⟨rfl, rfl⟩
                  rw [HHY.out]
                  go_wp2_with fail
                  refine (l1PutB_c bo oo co (mem c) xn _ (HIO.out.later (by (repeat (first | exact Below.refl _ _ | apply Below.drew | apply below_drewN | (refine Below.setCell ?_ (by first | omega | (simp; done) | (simp; omega) | (dsimp only; omega)) _) | (refine Below.alloc ?_ (by first | omega | (simp; done) | (simp; omega) | (dsimp only; omega)) _))))) (by omega) hlc hcm).mono ?_
                  rintro e w4 ⟨b4, o4, c4, rfl, hi4, hl4, hm4, hb4, hfr4⟩
                  rw [HP1.out] at hi4 hl4 ⊢
                  have hb4' : Below wi.heap.size wi w4 := (below_drewN (Below.refl _ _) _).trans hb4
                  have hz4 := hb4'.size
                  have hbo4 : b4 < w4.heap.size := by
                    obtain ⟨b', o', he', hbs', -⟩ := hi4 0 (by have : (xn : Int) ∈ mem c1 := (in_mem _ _).2 ⟨xn, by omega, by rw [HC1.out, Nat.testBit_or, Nat.testBit_two_pow]; simp, rfl⟩; exact List.length_pos_of_mem this)
                    cases he'; exact hbs'
                  have hba4 : w.heap.size + 1 ≤ b4 := by
                    rcases hfr4 with h | h
                    · omega
                    · have : wi.heap.size ≤ b4 := h
                      omega
                  have HI4 := Lib.hid hi4
                  have HB4 := Lib.hid hb4'
                  clear hi4 hb4 hb4' hfr4
                  go_wp2_with fail
                  refine (l1PutB_c b4 o4 c4 (mem c1) yn _ HI4.out (by omega) hl4 hm4).mono ?_
                  rintro e w5 ⟨b5, o5, c5, rfl, hi5, hl5, hm5, hb5, hfr5⟩
                  rw [HP2.out] at hi5 hl5 ⊢
                  have hz5 := hb5.size
                  have HB5 : Hid (Below wi.heap.size wi w5) := HB4.out.trans (hb5.mono hz4)
                  have HL5 : Hid (LM (w.heap.size + 1) w5 (.slice (some ⟨b5, o5, none⟩) (mem c2).length c5) c2) := by
                    have hba5 : w.heap.size + 1 ≤ b5 := by
                      rcases hfr5 with h | h <;> omega
                    refine ⟨b5, o5, c5, rfl, hi5, hl5, hm5, hba5, ?_⟩
                    rcases hfr5 with h | h
                    · omega
                    · have hp : 0 < (mem c2).length := by
                        have h1 : ∀ l : List Int, ∀ x, 0 < (putL l x).length := by
                          intro l x
                          cases l with
                          | nil => simp [putL]
                          | cons a l => unfold putL; split <;> (try split) <;> simp
                        rw [← HP2.out]; exact h1 _ _
                      obtain ⟨b', o', he', hbs', -⟩ := hi5 0 hp
                      cases he'; exact hbs'
                  clear hi5 hb5 hfr5
                  go_wp2
                  go_roundw
                  case rel => exact ⟨k + 1, by omega, by go_num, by rw [HS.out]; exact HL5.out, by rw [HS.out, HDC.out], hbox.out _ HB5.out⟩
                  case measure => simp [intOf]; omega
                case true =>
                  have HS : Hid (passK m.doors O A (k + 1) = c) := by show _ = _; rw [HN.out]; simp [HZN.out]
                  have HDC : Hid ((!decide (c = A)) = decide (passK m.doors O A (k + 1) ≠ A)) := by show _ = _; rw [HS.out]; simp
                  go_wp2
                  go_quiet (fail)
                  go_wp2_with fail
                  refine (l1Has_c _ _ _ L _ _ rfl (hLw.out.later (by (repeat (first | exact Below.refl _ _ | apply Below.drew | apply below_drewN | (refine Below.setCell ?_ (by first | omega | (simp; done) | (simp; omega) | (dsimp only; omega)) _) | (refine Below.alloc ?_ (by first | omega | (simp; done) | (simp; omega) | (dsimp only; omega)) _))))) hLl).mono ?_
                  rintro e w4 ⟨rfl, rfl⟩
                  rw [HLK.out]
                  go_wp2_with fail
                  refine (l1Has_c _ _ _ (mem c) _ _ rfl (HIO.out.later (by (repeat (first | exact Below.refl _ _ | apply Below.drew | apply below_drewN | (refine Below.setCell ?_ (by first | omega | (simp; done) | (simp; omega) | (dsimp only; omega)) _) | (refine Below.alloc ?_ (by first | omega | (simp; done) | (simp; omega) | (dsimp only; omega)) _))))) (by omega)).mono ?_
                  rintro e w4 ⟨rfl, rfl⟩
                  rw [HHX.out]
                  go_wp2_with fail
                  refine (l1Has_c _ _ _ (mem c) _ _ rfl (HIO.out.later (by (repeat (first | exact Below.refl _ _ | apply Below.drew | apply below_drewN | (refine Below.setCell ?_ (by first | omega | (simp; done) | (simp; omega) | (dsimp only; omega)) _) | (refine Below.alloc ?_ (by first | omega | (simp; done) | (simp; omega) | (dsimp only; omega)) _))))) (by omega)).mono ?_
                  rintro e w4 ⟨rfl, rfl⟩
                  rw [HHY.out]
                  go_wp2_with fail
                  go_roundw
                  case rel => exact ⟨k + 1, by omega, by go_num, by rw [HS.out]; exact HLMi.out _ (by (repeat (first | exact Below.refl _ _ | apply Below.drew | apply below_drewN | (refine Below.setCell ?_ (by first | omega | (simp; done) | (simp; omega) | (dsimp only; omega)) _) | (refine Below.alloc ?_ (by first | omega | (simp; done) | (simp; omega) | (dsimp only; omega)) _)))), by first | exact congrArg Value.bool HDC.out | rw [HS.out], hbox.out _ (by (repeat (first | exact Below.refl _ _ | apply Below.drew | apply below_drewN | (refine Below.setCell ?_ (by first | omega | (simp; done) | (simp; omega) | (dsimp only; omega)) _) | (refine Below.alloc ?_ (by first | omega | (simp; done) | (simp; omega) | (dsimp only; omega)) _))))⟩
                  case measure => simp [intOf]; omega
        · obtain rfl : k = m.doors.length := by omega
          rw [HPN.out] at hlm ⊢
          have HLF := Lib.hid hlm
          obtain ⟨bo, oo, co, rfl, -⟩ := hlm
          go_wp2
          by_cases he : passN m O A = A
          case pos =>
            have HE := Lib.hid he
            have HLF2 : Hid (LM (w.heap.size + 1) wi (.slice (some ⟨bo, oo, none⟩) (mem (passN m O A)).length co) A) := Eq.mp (congrArg (fun z => LM (w.heap.size + 1) wi (.slice (some ⟨bo, oo, none⟩) (mem (passN m O A)).length co) z) HE.out) HLF.out
            go_roundw
            case rel => exact ⟨j, decide (passN m O A ≠ A), by rw [← HAE.out]; exact HLF2.out, by first | rfl | (rw [HE.out]; simp), fun _ => by rw [← HAE.out]; exact HE.out, by rw [← HAE.out]; exact HJ.out, HBi.out⟩
            case measure => simp [lenVn, againV, HE.out]
          case neg =>
            have hgt := passN_grows he
            have HGT := Lib.hid hgt
            have HE := Lib.hid he
            have hpl : passN m O A < 4096 := by rw [← HPN.out]; exact (HPI.out A _ HAI.out (Nat.le_refl _)).lt OK.out
            have hgl := memN_grow HPS.out (fun e => he e.symm) hpl
            have h40 := mem_len40z (passN m O A)
            have HGL := Lib.hid hgl
            go_roundw
            case rel => exact ⟨j + 1, decide (passN m O A ≠ A), by rw [← HNX.out]; exact HLF.out, rfl, fun h => absurd (of_decide_eq_false h) (fun h2 => h2 HE.out), by rw [← HNX.out]; have h1 := HJ.out; have h2 := HGT.out; show _ ≤ _; omega, HBi.out⟩
            case measure => simp [lenVn, againV, HE.out]; have := HGL.out; omega
end Go.Proofs.Ytbaahghfjmkeoaa
