/- Contracts of setWins, winning, those. -/
import Derived.Test.YtlojcgjkjinlcaaKdWin
set_option linter.unusedVariables false
set_option linter.unusedSimpArgs false
namespace Go.KD
open Go.RowKit
def cutK (m : Mz) (s k : Nat) : List Int := (cutM m s).keys.take k ++ m.keys.drop k
theorem cutK_zero (m : Mz) (s : Nat) : cutK m s 0 = m.keys := by simp [cutK]
theorem cutK_full (m : Mz) (s : Nat) : cutK m s m.keys.length = (cutM m s).keys := by
  unfold cutK
  rw [List.drop_of_length_le (Nat.le_refl _), List.append_nil, List.take_of_length_le (by simp [cutM])]
@[simp] theorem cutK_len (m : Mz) (s k : Nat) (hk : k ≤ m.keys.length) : (cutK m s k).length = m.keys.length := by simp [cutK, cutM]; omega
theorem cutK_at (m : Mz) (s : Nat) {k : Nat} (hk : k < m.keys.length) : (cutK m s k)[k]! = m.keys[k]! := by
  unfold cutK
  rw [get_app, if_neg (by simp [cutM]; omega)]
  have : ((cutM m s).keys.take k).length = k := by simp [cutM]; omega
  rw [this, Nat.sub_self, List.drop_eq_getElem_cons hk, List.getElem!_cons_zero, getElem!_pos m.keys k hk]
theorem cutK_next (m : Mz) (s : Nat) {k : Nat} (hk : k < m.keys.length) : (cutK m s k).set k ((m.keys[k]!.toNat &&& s : Nat) : Int) = cutK m s (k + 1) := by
  unfold cutK
  have hl : ((cutM m s).keys.take k).length = k := by simp [cutM]; omega
  have hc : k < (cutM m s).keys.length := by simp [cutM]; exact hk
  rw [List.set_append_right _ _ (by omega), hl, Nat.sub_self, List.drop_eq_getElem_cons hk, List.set_cons_zero, take_snoc hc, List.append_assoc]
  congr 1
  rw [getElem!_pos (cutM m s).keys k hc, getElem!_pos m.keys k hk]
  simp [cutM]
end Go.KD
namespace Go.Proofs.Ytlojcgjkjinlcaa
open Go.RowKit Go.KD
attribute [local go_sem] later_cell later_frozen
set_option maxRecDepth 100000 in
set_option maxHeartbeats 4000000 in
theorem setWins_c (v : Value) (m : Mz) (s : Nat) (w : World) (hm : MzAt w v m) (ok : MzOk m) (hs : s < 64) : Calls Try.prog 120 #[v, .int .i64 s] w fun e w' =>
    e = .returned (.bool (setWinB m s)) ∧ Below w.heap.size w w' := by
  have hM := hm
  obtain ⟨⟨ad, cd, ak, ck, rfl, hd, hk'⟩, nd, nk⟩ := hM
  have hs1 : 1 ≤ m.size := ok.s1
  have hnk : (m.keys.length : Int) = m.size := ok.nk
  have hkl : 0 < m.keys.length := by omega
  have HCO := Lib.hid (cutM_ok ok s)
  have HKF : Hid (∀ k, k < m.keys.length → 0 ≤ m.keys[k]! ∧ m.keys[k]! < 64) := fun k => key_facts ok
  have hkl12 : m.keys.length ≤ 12 := by have := ok.s2; omega
  have OK := Lib.hid ok; clear ok
  have HNK := Lib.hid hnk; clear hnk
  go_enter Try.func120, Try.ntmps120
  go_wp2_with fail
  refine (own_c _ m _ (hm.later (by (repeat (first | exact Below.refl _ _ | apply Below.drew | apply below_drewN | (refine Below.setCell ?_ (by first | omega | (simp; done) | (simp; omega) | (dsimp only; omega)) _) | (refine Below.alloc ?_ (by first | omega | (simp; done) | (simp; omega) | (dsimp only; omega)) _)))))).mono ?_
  rintro e w1 ⟨u, rfl, ho, hb1⟩
  have hz1 := hb1.size
  simp only [World.size_alloc] at hz1
  have HB1 : Hid (Below w.heap.size w w1) := below_then (by (repeat (first | exact Below.refl _ _ | apply Below.drew | apply below_drewN | (refine Below.setCell ?_ (by first | omega | (simp; done) | (simp; omega) | (dsimp only; omega)) _) | (refine Below.alloc ?_ (by first | omega | (simp; done) | (simp; omega) | (dsimp only; omega)) _)))) hb1
  obtain ⟨e3, e1, vd, vk, rfl, o1, o2, hap⟩ := ho
  obtain ⟨g, capk, rfl, -, -⟩ := o2.row.form hkl
  obtain ⟨ad2, cd2, rfl⟩ := o1.slice
  simp only [World.size_alloc] at o1 o2
  have HO1 := Lib.hid o1
  have HAP := Lib.hid hap
  have hgb := o2.blocks g rfl
  have HO2 : Hid (Own (w.heap.size + 1) w1.heap.size w1 e1 1 (.slice (some ⟨g, 0, none⟩) m.keys.length capk) m.keys.length (ints (cutK m s 0))) := by rw [cutK_zero]; exact o2
  clear hb1 o1 o2 hap
  go_wp2
  have hbx : Below w1.heap.size w1 (w1.alloc (.cells #[.int .i64 m.size, .slice ad2 m.doors.length cd2, .slice (some ⟨g, 0, none⟩) m.keys.length capk] 29)) := (Below.refl _ _).alloc (Nat.le_refl _) _
  obtain ⟨w2, hw2⟩ : ∃ w2, w2 = w1.alloc (.cells #[.int .i64 m.size, .slice ad2 m.doors.length cd2, .slice (some ⟨g, 0, none⟩) m.keys.length capk] 29) := ⟨_, rfl⟩
  have hb2 : Below (w1.heap.size + 1) (w1.alloc (.cells #[.int .i64 m.size, .slice ad2 m.doors.length cd2, .slice (some ⟨g, 0, none⟩) m.keys.length capk] 29)) w2 := by rw [hw2]; exact Below.refl _ _
  obtain ⟨q0, q1, q2, z2⟩ := box3 hb2 (by omega)
  rw [← hw2] at hbx ⊢
  have HBX := Lib.hid hbx
  clear hw2 hbx hb2
  go_loopw [12] (fun i wr => ∃ k : Nat, k ≤ m.keys.length ∧ i = .int .i64 k ∧ Chg (w.heap.size + 1) w1.heap.size w2 wr ∧ Hid (Own (w.heap.size + 1) w1.heap.size wr e1 1 (.slice (some ⟨g, 0, none⟩) m.keys.length capk) m.keys.length (ints (cutK m s k))) ∧ Hid (Own (w.heap.size + 1) w1.heap.size wr e3 3 (.slice ad2 m.doors.length cd2) m.doors.length (c3 m.doors))) (fun i _ => m.keys.length - (intOf i).toNat)
  case atStart => exact ⟨0, Nat.zero_le _, rfl, Chg.of_below (Below.refl _ _), HO2.out.later HBX.out (Nat.le_refl _), HO1.out.later HBX.out (Nat.le_refl _)⟩
  case round =>
    obtain ⟨wo, rfl⟩ : ∃ wo : World, wo = wr := ⟨_, rfl⟩
    obtain ⟨k, hk, rfl, hch, HR, HD⟩ := hrel
    have r0 : wo.cell? ⟨w1.heap.size, 0, none⟩ = some (.int .i64 m.size) := (hch.cell (p := ⟨w1.heap.size, 0, none⟩) z2 (.inr (Nat.le_refl _))).trans q0
    have r1 : wo.cell? ⟨w1.heap.size, 1, none⟩ = some (.slice ad2 m.doors.length cd2) := (hch.cell (p := ⟨w1.heap.size, 1, none⟩) z2 (.inr (Nat.le_refl _))).trans q1
    have r2 : wo.cell? ⟨w1.heap.size, 2, none⟩ = some (.slice (some ⟨g, 0, none⟩) m.keys.length capk) := (hch.cell (p := ⟨w1.heap.size, 2, none⟩) z2 (.inr (Nat.le_refl _))).trans q2
    have HCH := Lib.hid hch
    clear hch
    by_cases hlt : k < m.keys.length
    · have hkk : (k : Int) < (m.keys.length : Int) := by omega
      have hky := HKF.out k hlt
      have HAT := Lib.hid (cutK_at m s hlt)
      obtain ⟨yn, hyn⟩ := Int.eq_ofNat_of_zero_le hky.1
      have HNX := Lib.hid (cutK_next m s hlt)
      rw [hyn] at hky HAT
      have e0 : wo.cell? ⟨g, k, none⟩ = some (.int .i64 yn) := by
        rw [HR.out.row.cellAt k (by omega), ints, List.getElem?_map, List.getElem?_eq_getElem (by rw [cutK_len m s k hk]; exact hlt)]
        have := HAT.out
        rw [getElem!_pos _ k (by rw [cutK_len m s k hk]; exact hlt)] at this
        rw [this]; rfl
      have f0 : wo.frozen? ⟨g, k, none⟩ = false := HR.out.row.frozenAt _
      have HNX' : Hid ((cutK m s k).set k ((yn &&& s : Nat) : Int) = cutK m s (k + 1)) := by show _ = _; have := HNX.out; rw [hyn] at this; exact this
      clear hyn
      have ea : bits .and .i64 (yn : Int) (s : Int) = ((yn &&& s : Nat) : Int) := i64_and yn s (by omega) (by omega)
      go_wp2
      go_roundw
      case rel =>
        have st := own_store1 HR.out.row k ((yn &&& s : Nat) : Int)
        rw [HNX'.out] at st
        have ht := HR.out.top
        refine ⟨k + 1, by omega, by go_num, HCH.out.trans (Chg.of_grown st.2 (fun g' hg => by cases hg; exact hgb)), ⟨st.1, ht⟩, HD.out.grown_ne st.2 (fun g' hg e => by cases e; exact HAP.out g hg rfl)⟩
      case measure => simp [intOf]; omega
    · obtain rfl : k = m.keys.length := by omega
      have HF : Hid (MzAt wo (.agg #[.int .i64 m.size, .slice ad2 m.doors.length cd2, .slice (some ⟨g, 0, none⟩) m.keys.length capk]) (cutM m s)) := by
        refine MzOwn.mz (lo := w.heap.size + 1) (hi := w1.heap.size) ⟨e3, e1, _, _, rfl, HD.out, ?_, HAP.out⟩ nd (by simp [cutM]; omega)
        have hl : (cutM m s).keys.length = m.keys.length := by simp [cutM]
        rw [hl, ← cutK_full]; exact HR.out
      have HBw : Hid (Below w.heap.size w wo) := HB1.out.trans ((HBX.out.mono (by omega)).trans (HCH.out.below (by omega) (by have := HBX.out.size; omega)))
      go_wp2_with fail
      refine (canWin_c _ (cutM m s) 0 _ HF.out HCO.out (by omega)).mono ?_
      rintro e w3 ⟨rfl, hb3⟩
      go_wp2_with fail
      go_ret
      exact ⟨rfl, below_then HBw.out hb3⟩
theorem winning1_c (s g : Nat) (m : Mz) (ad ak : Option Addr) (cd ck : Nat) (w : World) (hm : MzAt w (.agg #[.int .i64 m.size, .slice ad m.doors.length cd, .slice ak m.keys.length ck]) m) (ok : MzOk m) (hs : s < 64) (q0 : w.cell? ⟨g, 0, none⟩ = some (.int .i64 m.size)) (q1 : w.cell? ⟨g, 1, none⟩ = some (.slice ad m.doors.length cd)) (q2 : w.cell? ⟨g, 2, none⟩ = some (.slice ak m.keys.length ck)) :
    Calls Try.prog 119 #[.int .i64 s, .pointer (some ⟨g, 0, none⟩)] w fun e w' => e = .returned (.bool (setWinB m s)) ∧ Below w.heap.size w w' := by
  have OK := Lib.hid ok; clear ok
  go_enter Try.func119, Try.ntmps119
  go_wp2_with fail
  refine (setWins_c _ m s _ hm OK.out hs).mono ?_
  rintro e w1 ⟨rfl, hb1⟩
  go_wp2_with fail
  go_ret
  exact ⟨rfl, hb1⟩
end Go.Proofs.Ytlojcgjkjinlcaa
