/- Openings as the laws ask for them. -/
import Derived.Test.YtbaahghfjmkeoaaKdOpn
set_option linter.unusedVariables false
set_option linter.unusedSimpArgs false
namespace Go.KD
open Go.RowKit
noncomputable def askOB (m : Mz) (L : List Int) : Bool := goodB m && opsB m L
noncomputable def pIsOpening (m : Mz) (L : List Int) : Bool × Bool := if goodB m then (opsB m L, true) else (false, false)
noncomputable def pWinsBy (m : Mz) (L : List Int) : Bool × Bool := if askOB m L then (wonB m (opN m L), true) else (false, false)
noncomputable def pNearNodes (m : Mz) (L : List Int) : List Int × Bool := if askOB m L then (mem (nearN m (opN m L)), true) else ([], false)
noncomputable def pKeysLeft (m : Mz) (L : List Int) : List Int × Bool := if askOB m L then (leftL m (nearN m (opN m L)) L, true) else ([], false)
noncomputable def pNextLocks (m : Mz) (L : List Int) : List Int × Bool := if askOB m L then (nextL m (opN m L) L, true) else ([], false)
theorem pNearNodes_len (m : Mz) (L : List Int) : (pNearNodes m L).1.length ≤ 1000000 := by
  unfold pNearNodes; split
  · have := mem_len40z (nearN m (opN m L)); simp only; omega
  · simp
theorem pKeysLeft_len (m : Mz) (L : List Int) : (pKeysLeft m L).1.length ≤ 1000000 := by
  unfold pKeysLeft; split <;> simp
theorem good_ok {m : Mz} (h : goodB m = true) : MzOk m := by
  simp only [goodB, Bool.and_eq_true] at h
  exact mazeB_true.1 h.1
theorem pNextLocks_len (m : Mz) (L : List Int) : (pNextLocks m L).1.length ≤ 1000000 := by
  unfold pNextLocks; split
  · rename_i h
    simp only [askOB, Bool.and_eq_true] at h
    have := nextL_len m (opN m L) L
    have := (good_ok h.1).nd
    simp only; omega
  · simp
theorem ops_ok {m : Mz} {L : List Int} (ok : MzOk m) (h : opsB m L = true) : OpOk m (opN m L) L := by
  unfold opsB at h
  rw [Option.isSome_iff_exists] at h
  obtain ⟨O, hO⟩ := h
  have := opK_ok ok L.length O (Nat.le_refl _) hO
  rw [List.take_length] at this
  unfold opN
  rw [hO]; exact this
theorem op_lt30 {m : Mz} (ok : MzOk m) {O : Nat} {L : List Int} (h : OpOk m O L) : O < 1073741824 := bits_lt30 fun i hi => Nat.lt_of_lt_of_le (h.lt i hi) ok.nd
theorem op_hasB {m : Mz} (ok : MzOk m) {O : Nat} {L : List Int} (h : OpOk m O L) (k : Nat) (hk : k < m.doors.length) : hasI L (k : Int) = O.testBit k := op_has h k (by have := ok.nd; omega)
end Go.KD
namespace Go.Proofs.Ytbaahghfjmkeoaa
open Go.RowKit Go.KD
attribute [local go_sem] later_cell later_frozen
theorem openingOf_c (v : Value) (m : Mz) (aL : Option Addr) (cL : Nat) (L : List Int) (w : World) (hm : MzAt w v m) (hL : IC w aL L) (hLl : L.length ≤ 1048576) : Calls Try.prog 60 #[v, .slice aL L.length cL] w fun e w' =>
    (∃ O : Nat, e = .returned (.tuple #[.int .i64 O, .bool (askOB m L)]) ∧ Hid (askOB m L = true → O = opN m L)) ∧ Below w.heap.size w w' := by
  have hM := hm
  obtain ⟨⟨ad, cd, ak, ck, rfl, hd, hk'⟩, nd, nk⟩ := hM
  cases b1 : goodB m
  · have H : Hid (askOB m L = false) := by show _ = _; simp [askOB, b1]
    go_enter Try.func60, Try.ntmps60
    go_wp2_with (go_at_call 77; refine (isSpent_c _ m _ (hm.later (by (repeat (first | exact Below.refl _ _ | apply Below.drew | apply below_drewN | (refine Below.setCell ?_ (by first | omega | (simp; done) | (simp; omega) | (dsimp only; omega)) _) | (refine Below.alloc ?_ (by first | omega | (simp; done) | (simp; omega) | (dsimp only; omega)) _)))))).mono ?_; rintro e w1 ⟨rfl, hb1⟩)
    go_ret2
    exact ⟨⟨0, by rw [H.out]; rfl, fun h => by rw [H.out] at h; cases h⟩, below_then (by (repeat (first | exact Below.refl _ _ | apply Below.drew | apply below_drewN | (refine Below.setCell ?_ (by first | omega | (simp; done) | (simp; omega) | (dsimp only; omega)) _) | (refine Below.alloc ?_ (by first | omega | (simp; done) | (simp; omega) | (dsimp only; omega)) _)))) hb1⟩
  · have H : Hid (askOB m L = opsB m L) := by show _ = _; simp [askOB, b1]
    have OK := Lib.hid (good_ok b1)
    go_enter Try.func60, Try.ntmps60
    go_wp2_with (first
      | (go_at_call 77; refine (isSpent_c _ m _ (hm.later (by (repeat (first | exact Below.refl _ _ | apply Below.drew | apply below_drewN | (refine Below.setCell ?_ (by first | omega | (simp; done) | (simp; omega) | (dsimp only; omega)) _) | (refine Below.alloc ?_ (by first | omega | (simp; done) | (simp; omega) | (dsimp only; omega)) _)))))).mono ?_; rintro e w1 ⟨rfl, hb1⟩; obtain ⟨hc1, hf1, hz1⟩ := bcell3 hb1; have HB1 : Hid (Below w.heap.size w w1) := below_then (by (repeat (first | exact Below.refl _ _ | apply Below.drew | apply below_drewN | (refine Below.setCell ?_ (by first | omega | (simp; done) | (simp; omega) | (dsimp only; omega)) _) | (refine Below.alloc ?_ (by first | omega | (simp; done) | (simp; omega) | (dsimp only; omega)) _)))) hb1; simp only [b1])
      | (go_at_call 93; refine (opening_c _ m _ _ L _ (hm.later HB1.out) OK.out (hL.later HB1.out) hLl).mono ?_; rintro e w2 ⟨rfl, hb2⟩))
    go_ret2
    exact ⟨⟨opN m L, by rw [H.out]; rfl, fun _ => rfl⟩, below_then HB1.out hb2⟩
theorem l7Ask_c (v : Value) (m : Mz) (aL : Option Addr) (cL : Nat) (L : List Int) (w : World) (hm : MzAt w v m) (hL : IC w aL L) (hLl : L.length ≤ 1048576) (hcap : 0 < L.length → L.length ≤ cL ∧ cL ≤ maxLen) : Calls Try.prog 54 #[v, .slice aL L.length cL] w fun e w' =>
    e = .returned (.bool (askOB m L)) ∧ Below w.heap.size w w' := by
  have hM := hm
  obtain ⟨⟨ad, cd, ak, ck, rfl, hd, hk'⟩, nd, nk⟩ := hM
  have HCAP := Lib.hid hcap; clear hcap
  cases b1 : goodB m
  · have H : Hid (askOB m L = false) := by show _ = _; simp [askOB, b1]
    go_enter Try.func54, Try.ntmps54
    go_wp2_with (go_at_call 80; refine (l7Good_c _ m _ (hm.later (by (repeat (first | exact Below.refl _ _ | apply Below.drew | apply below_drewN | (refine Below.setCell ?_ (by first | omega | (simp; done) | (simp; omega) | (dsimp only; omega)) _) | (refine Below.alloc ?_ (by first | omega | (simp; done) | (simp; omega) | (dsimp only; omega)) _)))))).mono ?_; rintro e w1 ⟨rfl, hb1⟩; simp only [b1])
    go_ret
    exact ⟨by rw [H.out]; rfl, below_then (by (repeat (first | exact Below.refl _ _ | apply Below.drew | apply below_drewN | (refine Below.setCell ?_ (by first | omega | (simp; done) | (simp; omega) | (dsimp only; omega)) _) | (refine Below.alloc ?_ (by first | omega | (simp; done) | (simp; omega) | (dsimp only; omega)) _)))) hb1⟩
  · have H : Hid (askOB m L = opsB m L) := by show _ = _; simp [askOB, b1]
    have OK := Lib.hid (good_ok b1)
    go_enter Try.func54, Try.ntmps54
    go_wp2_with (first
      | (go_at_call 80; refine (l7Good_c _ m _ (hm.later (by (repeat (first | exact Below.refl _ _ | apply Below.drew | apply below_drewN | (refine Below.setCell ?_ (by first | omega | (simp; done) | (simp; omega) | (dsimp only; omega)) _) | (refine Below.alloc ?_ (by first | omega | (simp; done) | (simp; omega) | (dsimp only; omega)) _)))))).mono ?_; rintro e w1 ⟨rfl, hb1⟩; obtain ⟨hc1, hf1, hz1⟩ := bcell3 hb1; have HB1 : Hid (Below w.heap.size w w1) := below_then (by (repeat (first | exact Below.refl _ _ | apply Below.drew | apply below_drewN | (refine Below.setCell ?_ (by first | omega | (simp; done) | (simp; omega) | (dsimp only; omega)) _) | (refine Below.alloc ?_ (by first | omega | (simp; done) | (simp; omega) | (dsimp only; omega)) _)))) hb1; simp only [b1])
      | (go_at_call 94; refine (l7Opening_c _ m _ _ L _ (hm.later HB1.out) OK.out (hL.later HB1.out) hLl HCAP.out).mono ?_; rintro e w2 ⟨rfl, hb2⟩))
    go_ret
    exact ⟨by rw [H.out]; rfl, below_then HB1.out hb2⟩
set_option maxRecDepth 100000 in
theorem isWon_c (v : Value) (m : Mz) (O : Nat) (w : World) (hm : MzAt w v m) (ok : MzOk m) (hO : O < 1073741824) : Calls Try.prog 61 #[v, .int .i64 O] w fun e w' => e = .returned (.bool (wonB m O)) ∧ Below w.heap.size w w' := by
  have hM := hm
  obtain ⟨⟨ad, cd, ak, ck, rfl, hd, hk'⟩, nd, nk⟩ := hM
  have hs1 : 1 ≤ m.size := ok.s1
  have hs12 : m.size ≤ 12 := ok.s2
  have hnk : (m.keys.length : Int) = m.size := ok.nk
  have HNIN := Lib.hid ((nearN_in ok O).lt ok)
  have OK := Lib.hid ok
  obtain ⟨n1, hn1⟩ : ∃ n1, m.keys.length = n1 + 1 := ⟨m.keys.length - 1, by omega⟩
  have hix : IntKind.i64.wrap (m.size - 1) = (n1 : Int) := by rw [IntKind.wrap_i64]; omega
  have hn12 : n1 < 12 := by omega
  have hnI : (n1 : Int) < 64 := by omega
  have hn0 : (0 : Int) ≤ (n1 : Int) := by omega
  have HW : Hid (wonB m O = (nearN m O).testBit n1) := by show _ = _; unfold wonB; rw [hn1]; rfl
  obtain ⟨y, HY, ey⟩ := shr_at (nearN m O) n1
  have hy : y < 1099511627776 := by
    have := HY.out; rw [Nat.shiftRight_eq_div_pow] at this; have := Nat.div_le_self (nearN m O) (2 ^ n1); have := HNIN.out; omega
  have eb := and1 hy
  have hb1 := bit_shr (nearN m O) n1
  rw [← HY.out] at hb1
  rw [hb1] at eb
  have HN := Lib.hid hn1
  clear ok hn1 hb1 hy
  obtain ⟨pb, hpb⟩ : ∃ pb, pb = (nearN m O).testBit n1 := ⟨_, rfl⟩
  rw [← hpb] at eb HW
  clear hpb
  cases pb
  all_goals
    (first | simp only [if_true] at eb | simp only [Bool.false_eq_true, if_false] at eb)
    go_enter Try.func61, Try.ntmps61
    go_wp2
    have hb0 : Below (w.heap.size + 1) (w.alloc (.cells #[.int .i64 m.size, .slice ad m.doors.length cd, .slice ak m.keys.length ck] 29)) (w.alloc (.cells #[.int .i64 m.size, .slice ad m.doors.length cd, .slice ak m.keys.length ck] 29)).drew := (Below.refl _ _).drew
    obtain ⟨q0, q1, q2, z1⟩ := box3 hb0 (by omega)
    go_region_held3 (fun W => W.cell? ⟨w.heap.size, 0, none⟩ = some (.int .i64 m.size) ∧ W.cell? ⟨w.heap.size, 1, none⟩ = some (.slice ad m.doors.length cd) ∧ W.cell? ⟨w.heap.size, 2, none⟩ = some (.slice ak m.keys.length ck))
      (first | exact ⟨q0, q1, q2⟩ | exact ⟨r0, r1, r2⟩)
      ((go_at_call 95; refine (near_c _ m O _ (hm.later (by (repeat (first | exact Below.refl _ _ | apply Below.drew | apply below_drewN | (refine Below.setCell ?_ (by first | omega | (simp; done) | (simp; omega) | (dsimp only; omega)) _) | (refine Below.alloc ?_ (by first | omega | (simp; done) | (simp; omega) | (dsimp only; omega)) _))))) OK.out hO).mono ?_; rintro e w2 ⟨rfl, hb2⟩; have hb2' : Below (w.heap.size + 1) (w.alloc (.cells #[.int .i64 m.size, .slice ad m.doors.length cd, .slice ak m.keys.length ck] 29)) w2 := hb0.trans (hb2.mono (by simp)); obtain ⟨r0, r1, r2, z2⟩ := box3 hb2' (by omega); have HB2 : Hid (Below w.heap.size w w2) := below_box hb2' (by omega); clear hb2 hb2'))
    go_wp2
    go_ret
    exact ⟨by rw [HW.out]; rfl, HB2.out⟩
set_option maxRecDepth 100000 in
theorem l7Wins_c (v : Value) (m : Mz) (O : Nat) (aL : Option Addr) (cL n : Nat) (L : List Int) (w : World) (hn : n = L.length) (hm : MzAt w v m) (ok : MzOk m) (hL : IC w aL L) (hLl : L.length ≤ 1048576) (hop : OpOk m O L) : Calls Try.prog 55 #[v, .slice aL n cL] w fun e w' => e = .returned (.bool (wonB m O)) ∧ Below w.heap.size w w' := by
  subst hn
  have hM := hm
  obtain ⟨⟨ad, cd, ak, ck, rfl, hd, hk'⟩, nd, nk⟩ := hM
  have hs1 : 1 ≤ m.size := ok.s1
  have hs12 : m.size ≤ 12 := ok.s2
  have hnk : (m.keys.length : Int) = m.size := ok.nk
  have HNIN := Lib.hid ((nearN_in ok O).lt ok)
  have HHB := Lib.hid (op_hasB ok hop)
  have OK := Lib.hid ok
  obtain ⟨n1, hn1⟩ : ∃ n1, m.keys.length = n1 + 1 := ⟨m.keys.length - 1, by omega⟩
  have hix : IntKind.i64.wrap (m.size - 1) = (n1 : Int) := by rw [IntKind.wrap_i64]; omega
  have HW : Hid (hasI (mem (nearN m O)) (n1 : Int) = wonB m O) := by show _ = _; unfold wonB; rw [hn1]; exact hasI_bitZ HNIN.out
  have HN := Lib.hid hn1
  clear ok hn1 hop
  go_enter Try.func55, Try.ntmps55
  go_wp2
  have hb0 : Below (w.heap.size + 1) (w.alloc (.cells #[.int .i64 m.size, .slice ad m.doors.length cd, .slice ak m.keys.length ck] 29)) (w.alloc (.cells #[.int .i64 m.size, .slice ad m.doors.length cd, .slice ak m.keys.length ck] 29)).drew := (Below.refl _ _).drew
  obtain ⟨q0, q1, q2, z1⟩ := box3 hb0 (by omega)
  go_region_held3 (fun W => W.cell? ⟨w.heap.size, 0, none⟩ = some (.int .i64 m.size) ∧ W.cell? ⟨w.heap.size, 1, none⟩ = some (.slice ad m.doors.length cd) ∧ W.cell? ⟨w.heap.size, 2, none⟩ = some (.slice ak m.keys.length ck))
    (first | exact ⟨q0, q1, q2⟩ | exact ⟨r0, r1, r2⟩)
    (first
      | (go_at_call 96; refine (l7Near_c _ m O _ _ L _ (hm.later (by (repeat (first | exact Below.refl _ _ | apply Below.drew | apply below_drewN | (refine Below.setCell ?_ (by first | omega | (simp; done) | (simp; omega) | (dsimp only; omega)) _) | (refine Below.alloc ?_ (by first | omega | (simp; done) | (simp; omega) | (dsimp only; omega)) _))))) OK.out (hL.later (by (repeat (first | exact Below.refl _ _ | apply Below.drew | apply below_drewN | (refine Below.setCell ?_ (by first | omega | (simp; done) | (simp; omega) | (dsimp only; omega)) _) | (refine Below.alloc ?_ (by first | omega | (simp; done) | (simp; omega) | (dsimp only; omega)) _))))) hLl HHB.out).mono ?_; rintro e w2 ⟨u2, rfl, hlm, hb2⟩; obtain ⟨gr, orr, cr, rfl, hni, -, -, -, -⟩ := hlm; have hb2' : Below (w.heap.size + 1) (w.alloc (.cells #[.int .i64 m.size, .slice ad m.doors.length cd, .slice ak m.keys.length ck] 29)) w2 := hb0.trans (hb2.mono (by simp)); obtain ⟨r0, r1, r2, z2⟩ := box3 hb2' (by omega); have HB2 : Hid (Below w.heap.size w w2) := below_box hb2' (by omega); clear hb2 hb2')
      | (go_at_call 88; refine (l1Has_c _ _ _ (mem (nearN m O)) _ _ rfl hni (by have := mem_len40z (nearN m O); omega)).mono ?_; rintro e w3 ⟨rfl, rfl⟩))
  go_wp2
  go_ret
  exact ⟨by rw [← HW.out]; rfl, HB2.out⟩
end Go.Proofs.Ytbaahghfjmkeoaa
