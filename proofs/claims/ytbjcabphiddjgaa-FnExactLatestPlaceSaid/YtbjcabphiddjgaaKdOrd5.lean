/- Contracts of LatestPlace. -/
import Derived.Test.YtbjcabphiddjgaaKdOrd4
import Derived.Test.YtbjcabphiddjgaaKdOrd2
import Derived.Test.YtbjcabphiddjgaaKdBitsN
set_option linter.unusedVariables false
set_option linter.unusedSimpArgs false
namespace Go.KD
open Go.RowKit
noncomputable def canB (m : Mz) (x : Int) : Bool := mazeB m && inB x 0 (m.size - 1) && (largN m (allN m)).testBit x.toNat
noncomputable def pLatestPlace (m : Mz) (x : Int) : Int × Bool := if canB m x then (popc (largN m (andn (allN m) (2 ^ x.toNat))), true) else (0, false)
theorem shl_le (y : Nat) (hy : y ≤ 12) : ∃ p : Nat, Hid (p = 2 ^ y) ∧ IntKind.i64.wrap (2 ^ y) = (p : Int) ∧ 1 ≤ p ∧ p ≤ 4096 := by
  refine ⟨2 ^ y, rfl, ?_, Nat.two_pow_pos y, Nat.pow_le_pow_right (n := 2) (by omega) hy⟩
  have h : 2 ^ y ≤ 2 ^ 12 := Nat.pow_le_pow_right (by omega) hy
  have e : ((2 ^ y : Nat) : Int) = 2 ^ y := by simp
  rw [← e]
  generalize 2 ^ y = q at h
  exact IntWalk.i64_in _ (by omega)
theorem allN_in (m : Mz) (h : 1 ≤ m.size) : InM m (allN m) := by
  intro i hi
  rw [allN_bit] at hi
  have : i < m.size.toNat := by simpa using hi
  omega
theorem less_in {m : Mz} {n b : Nat} (h : InM m n) : InM m (andn n b) := by
  intro i hi
  rw [andn_bit, Bool.and_eq_true] at hi
  exact h i hi.1
theorem all_less : ∀ s, s < 13 → ∀ x, x < s → 2 ^ s - 1 - 2 ^ x = andn (2 ^ s - 1) (2 ^ x) ∧ 2 ^ x ≤ 2 ^ s - 1 := by decide
theorem nexN_zero (m : Mz) : nexN m 0 = 0 := by
  unfold nexN
  rw [mem_zero]
  simp [unionL, andn]
theorem itL_none {m : Mz} {code : Nat} (h : code.testBit 0 = false) : ∀ k, itL m code k = 0
  | 0 => by
    show code &&& 1 = 0
    rw [Nat.and_one_is_mod]
    rw [Nat.testBit_zero] at h
    have : ¬ (code % 2 = 1) := by simpa using h
    omega
  | k + 1 => by
    show lgN m code (itL m code k) = 0
    rw [itL_none h k, lgN, nexN_zero]
    simp
theorem largN_none {m : Mz} {code : Nat} (h : code.testBit 0 = false) : largN m code = 0 := itL_none h _
theorem fuFin_has {m : Mz} (ok : MzOk m) (last : Bool) (x : Int) (k : Nat) : hasI (fuFin m last k) x = (decide (0 ≤ x) && (fuK m last k).2.testBit x.toNat) := by
  have hl := fuK_lt ok last k
  rw [Bool.eq_iff_iff, hasI_iff]
  unfold fuFin
  rw [fuK_in ok last k x, hasI_mem (by omega)]
  simp
theorem full_has {m : Mz} (ok : MzOk m) (last : Bool) (x : Int) : hasI (fullL m last) x = (decide (0 ≤ x) && (largN m (allN m)).testBit x.toNat) := by
  rw [entered_eq ok last]
  exact fuFin_has ok last x _
theorem nodesB_one (m : Mz) (x : Int) : nodesB m [x] = inB x 0 (m.size - 1) := by simp [nodesB, anyP]
end Go.KD
namespace Go.Proofs.Ytbjcabphiddjgaa
open Go.RowKit Go.KD
attribute [local go_sem] later_cell later_frozen
theorem onesCountN_c (x : Nat) (hx : x < 4096) (w : World) : Calls Try.prog 72 #[.int .u64 x] w fun e w' => e = .returned (.int .i64 (popc x)) ∧ w' = w := by
  go_enter Try.func72, Try.ntmps72
  go_wp2_with (go_at_call 107; refine (onesCount64N_c x hx _).mono ?_; rintro e w1 ⟨rfl, rfl⟩)
  go_ret
  exact ⟨rfl, rfl⟩
theorem allNodes_c (v : Value) (m : Mz) (w : World) (hm : MzAt w v m) (ok : MzOk m) :
    Calls Try.prog 108 #[v] w fun e w' => e = .returned (.int .i64 (allN m)) ∧ Below w.heap.size w w' := by
  obtain ⟨⟨ad, cd, ak, ck, rfl, hd, hk'⟩, nd, nk⟩ := hm
  have hs1 : 1 ≤ m.size := ok.s1
  have hs2 : m.size ≤ 12 := ok.s2
  clear ok
  obtain ⟨s, gs, ps⟩ := m
  dsimp only at *
  obtain ⟨sn, rfl⟩ := Int.eq_ofNat_of_zero_le (show 0 ≤ s by omega)
  obtain ⟨p, HP, ep, hp1, hp2⟩ := shl_le sn (by omega)
  have HR : Hid ((allN ⟨(sn : Int), gs, ps⟩ : Nat) = p - 1) := by show _ = _; unfold allN; rw [HP.out]; rfl
  go_enter Try.func108, Try.ntmps108
  go_wp2
  go_ret
  exact ⟨ret_int (by rw [HR.out]; omega), by (repeat (first | exact Below.refl _ _ | apply Below.drew | apply below_drewN | (refine Below.setCell ?_ (by first | omega | (simp; done) | (simp; omega) | (dsimp only; omega)) _) | (refine Below.alloc ?_ (by first | omega | (simp; done) | (simp; omega) | (dsimp only; omega)) _)))⟩
set_option maxHeartbeats 1000000 in
theorem entered_c (v : Value) (m : Mz) (w : World) (hm : MzAt w v m) (ok : MzOk m) :
    Calls Try.prog 105 #[v] w fun e w' => e = .returned (.int .i64 (largN m (allN m))) ∧ Below w.heap.size w w' := by
  have hM := hm
  obtain ⟨⟨ad, cd, ak, ck, rfl, hd, hk'⟩, nd, nk⟩ := hM
  have HIN := Lib.hid (allN_in m ok.s1)
  have OK := Lib.hid ok; clear ok
  go_enter Try.func105, Try.ntmps105
  go_wp2
  generalize hW : w.alloc (.cells #[.int .i64 m.size, .slice ad m.doors.length cd, .slice ak m.keys.length ck] 29) = wo
  have hb : Below (w.heap.size + 1) (w.alloc (.cells #[.int .i64 m.size, .slice ad m.doors.length cd, .slice ak m.keys.length ck] 29)) wo := by rw [hW]; exact Below.refl _ _
  have HB : Hid (Below w.heap.size w wo) := below_box hb (by omega)
  obtain ⟨q0, q1, q2, z1⟩ := box3 hb (by omega)
  clear hb hW
  go_region_held3 (fun W => W.cell? ⟨w.heap.size, 0, none⟩ = some (.int .i64 m.size) ∧ W.cell? ⟨w.heap.size, 1, none⟩ = some (.slice ad m.doors.length cd) ∧ W.cell? ⟨w.heap.size, 2, none⟩ = some (.slice ak m.keys.length ck))
    (first | exact ⟨q0, q1, q2⟩ | exact ⟨r0, r1, r2⟩ | exact ⟨s0, s1, s2⟩)
    (first | (go_at_call 108; refine (allNodes_c _ m _ (hm.later HB.out.drew) OK.out).mono ?_; rintro e w2 ⟨rfl, hb2⟩; have HB2 := Lib.hid (below_then HB.out.drew hb2); have r0 : w2.cell? ⟨w.heap.size, 0, none⟩ = some (.int .i64 m.size) := (hb2.cell (p := ⟨w.heap.size, 0, none⟩) (show w.heap.size < wo.heap.size by assumption)).trans q0; have r1 : w2.cell? ⟨w.heap.size, 1, none⟩ = some (.slice ad m.doors.length cd) := (hb2.cell (p := ⟨w.heap.size, 1, none⟩) (show w.heap.size < wo.heap.size by assumption)).trans q1; have r2 : w2.cell? ⟨w.heap.size, 2, none⟩ = some (.slice ak m.keys.length ck) := (hb2.cell (p := ⟨w.heap.size, 2, none⟩) (show w.heap.size < wo.heap.size by assumption)).trans q2; have z2 : w.heap.size < w2.heap.size := Nat.lt_of_lt_of_le (show w.heap.size < wo.heap.size by assumption) hb2.size) | (go_at_call 69; refine (largest_c _ m (allN m) _ (hm.later HB2.out) OK.out HIN.out).mono ?_; rintro e w3 ⟨rfl, hb3⟩; have s0 : w3.cell? ⟨w.heap.size, 0, none⟩ = some (.int .i64 m.size) := (hb3.cell (p := ⟨w.heap.size, 0, none⟩) (show w.heap.size < w2.heap.size by assumption)).trans r0; have s1 : w3.cell? ⟨w.heap.size, 1, none⟩ = some (.slice ad m.doors.length cd) := (hb3.cell (p := ⟨w.heap.size, 1, none⟩) (show w.heap.size < w2.heap.size by assumption)).trans r1; have s2 : w3.cell? ⟨w.heap.size, 2, none⟩ = some (.slice ak m.keys.length ck) := (hb3.cell (p := ⟨w.heap.size, 2, none⟩) (show w.heap.size < w2.heap.size by assumption)).trans r2))
  go_wp2
  go_ret
  exact ⟨rfl, below_then HB2.out hb3⟩
set_option maxHeartbeats 1000000 in
theorem without_c (v : Value) (m : Mz) (x : Nat) (w : World) (hm : MzAt w v m) (ok : MzOk m) (hx : x < 12) :
    Calls Try.prog 73 #[v, .int .i64 x] w fun e w' => e = .returned (.int .i64 (largN m (andn (allN m) (2 ^ x)))) ∧ Below w.heap.size w w' := by
  have hM := hm
  obtain ⟨⟨ad, cd, ak, ck, rfl, hd, hk'⟩, nd, nk⟩ := hM
  obtain ⟨p, HP, ep, hp⟩ := shl_at x hx
  have hal := allN_lt ok
  have HIN : Hid (InM m (andn (allN m) p)) := less_in (allN_in m ok.s1)
  have eA : bits .andNot .i64 (allN m : Int) (p : Int) = ((andn (allN m) p : Nat) : Int) := i64_andNot _ p (by omega)
  have OK := Lib.hid ok; clear ok
  have hx0 : (x : Int) < 12 := by omega
  go_enter Try.func73, Try.ntmps73
  go_wp2
  generalize hW : w.alloc (.cells #[.int .i64 m.size, .slice ad m.doors.length cd, .slice ak m.keys.length ck] 29) = wo
  have hb : Below (w.heap.size + 1) (w.alloc (.cells #[.int .i64 m.size, .slice ad m.doors.length cd, .slice ak m.keys.length ck] 29)) wo := by rw [hW]; exact Below.refl _ _
  have HB : Hid (Below w.heap.size w wo) := below_box hb (by omega)
  obtain ⟨q0, q1, q2, z1⟩ := box3 hb (by omega)
  clear hb hW
  go_region_held3 (fun W => W.cell? ⟨w.heap.size, 0, none⟩ = some (.int .i64 m.size) ∧ W.cell? ⟨w.heap.size, 1, none⟩ = some (.slice ad m.doors.length cd) ∧ W.cell? ⟨w.heap.size, 2, none⟩ = some (.slice ak m.keys.length ck))
    (first | exact ⟨q0, q1, q2⟩ | exact ⟨r0, r1, r2⟩ | exact ⟨s0, s1, s2⟩)
    (first | (go_at_call 108; refine (allNodes_c _ m _ (hm.later HB.out.drew) OK.out).mono ?_; rintro e w2 ⟨rfl, hb2⟩; have HB2 := Lib.hid (below_then HB.out.drew hb2); have r0 : w2.cell? ⟨w.heap.size, 0, none⟩ = some (.int .i64 m.size) := (hb2.cell (p := ⟨w.heap.size, 0, none⟩) (show w.heap.size < wo.heap.size by assumption)).trans q0; have r1 : w2.cell? ⟨w.heap.size, 1, none⟩ = some (.slice ad m.doors.length cd) := (hb2.cell (p := ⟨w.heap.size, 1, none⟩) (show w.heap.size < wo.heap.size by assumption)).trans q1; have r2 : w2.cell? ⟨w.heap.size, 2, none⟩ = some (.slice ak m.keys.length ck) := (hb2.cell (p := ⟨w.heap.size, 2, none⟩) (show w.heap.size < wo.heap.size by assumption)).trans q2; have z2 : w.heap.size < w2.heap.size := Nat.lt_of_lt_of_le (show w.heap.size < wo.heap.size by assumption) hb2.size) | (go_at_call 69; refine (largest_c _ m (andn (allN m) p) _ (hm.later HB2.out) OK.out HIN.out).mono ?_; rintro e w3 ⟨rfl, hb3⟩; have s0 : w3.cell? ⟨w.heap.size, 0, none⟩ = some (.int .i64 m.size) := (hb3.cell (p := ⟨w.heap.size, 0, none⟩) (show w.heap.size < w2.heap.size by assumption)).trans r0; have s1 : w3.cell? ⟨w.heap.size, 1, none⟩ = some (.slice ad m.doors.length cd) := (hb3.cell (p := ⟨w.heap.size, 1, none⟩) (show w.heap.size < w2.heap.size by assumption)).trans r1; have s2 : w3.cell? ⟨w.heap.size, 2, none⟩ = some (.slice ak m.keys.length ck) := (hb3.cell (p := ⟨w.heap.size, 2, none⟩) (show w.heap.size < w2.heap.size by assumption)).trans r2))
  go_wp2
  go_ret
  exact ⟨ret_int (by rw [HP.out]), below_then HB2.out hb3⟩
set_option maxHeartbeats 2000000 in
theorem canEnter_c (v : Value) (m : Mz) (x : Int) (w : World) (hm : MzAt w v m) :
    Calls Try.prog 71 #[v, .int .i64 x] w fun e w' => e = .returned (.bool (canB m x)) ∧ Below w.heap.size w w' := by
  have hM := hm
  obtain ⟨⟨ad, cd, ak, ck, rfl, hd, hk'⟩, nd, nk⟩ := hM
  cases b1 : (mazeB m && inB x 0 (m.size - 1))
  · have HR : Hid (false = canB m x) := by show _ = _; simp [canB, b1]
    go_enter Try.func71, Try.ntmps71
    go_wp2_with fail
    refine (isNode_c _ m _ 1 1 [x] _ (hm.later (by (repeat (first | exact Below.refl _ _ | apply Below.drew | apply below_drewN | (refine Below.setCell ?_ (by first | omega | (simp; done) | (simp; omega) | (dsimp only; omega)) _) | (refine Below.alloc ?_ (by first | omega | (simp; done) | (simp; omega) | (dsimp only; omega)) _))))) rfl (ic_lit _ _ _ _ _ (by simp) rfl) (by omega)).mono ?_
    rintro e w1 ⟨rfl, hb1⟩
    rw [nodesB_one, b1]
    go_wp2_with fail
    go_ret
    exact ⟨ret_bool HR.out, below_then (by (repeat (first | exact Below.refl _ _ | apply Below.drew | apply below_drewN | (refine Below.setCell ?_ (by first | omega | (simp; done) | (simp; omega) | (dsimp only; omega)) _) | (refine Below.alloc ?_ (by first | omega | (simp; done) | (simp; omega) | (dsimp only; omega)) _)))) hb1⟩
  · have b1' := b1
    rw [Bool.and_eq_true] at b1'
    have ok := mazeB_true.1 b1'.1
    obtain ⟨x0, x1⟩ := inB_true.1 b1'.2
    have hs2 : m.size ≤ 12 := ok.s2
    have hal : Hid (largN m (allN m) < 4096) := itL_lt ok _ _
    have OK := Lib.hid ok; clear ok b1'
    obtain ⟨xn, rfl⟩ := Int.eq_ofNat_of_zero_le x0
    have HR : Hid ((largN m (allN m)).testBit xn = canB m xn) := by show _ = _; simp [canB, b1]
    obtain ⟨X, hX⟩ : ∃ X, X = largN m (allN m) := ⟨_, rfl⟩
    rw [← hX] at HR hal
    have HX := Lib.hid hX; clear hX
    have hX40 := hal.out
    obtain ⟨y, HY, ey⟩ := shr_at X xn
    have hy : y < 1099511627776 := by
      have := HY.out; rw [Nat.shiftRight_eq_div_pow] at *; have := Nat.div_le_self X (2 ^ xn); omega
    have ea : bits .and .i64 (y : Int) 1 = ((y % 2 : Nat) : Int) := and1 hy
    have hb := bit_shr X xn
    rw [← HY.out] at hb
    rw [hb] at ea
    clear hb
    go_enter Try.func71, Try.ntmps71
    go_wp2_with fail
    refine (isNode_c _ m _ 1 1 [(xn : Int)] _ (hm.later (by (repeat (first | exact Below.refl _ _ | apply Below.drew | apply below_drewN | (refine Below.setCell ?_ (by first | omega | (simp; done) | (simp; omega) | (dsimp only; omega)) _) | (refine Below.alloc ?_ (by first | omega | (simp; done) | (simp; omega) | (dsimp only; omega)) _))))) rfl (ic_lit _ _ _ _ _ (by simp) rfl) (by omega)).mono ?_
    rintro e w1 ⟨rfl, hb1⟩
    have HB1 : Hid (Below w.heap.size w w1) := below_then (by (repeat (first | exact Below.refl _ _ | apply Below.drew | apply below_drewN | (refine Below.setCell ?_ (by first | omega | (simp; done) | (simp; omega) | (dsimp only; omega)) _) | (refine Below.alloc ?_ (by first | omega | (simp; done) | (simp; omega) | (dsimp only; omega)) _)))) hb1
    have HX1 : Hid (Below (w.heap.size + 1) (w.alloc (.cells #[.int .i64 m.size, .slice ad m.doors.length cd, .slice ak m.keys.length ck] 29)) w1) := ((Below.refl _ _).alloc (by simp) _).trans (hb1.mono (by simp))
    obtain ⟨q0, q1, q2, z1⟩ := box3 HX1.out (by simp)
    rw [nodesB_one, b1]
    clear hb1
    cases hbit : X.testBit xn
    · rw [hbit] at ea HR
      simp only [Bool.false_eq_true, if_false] at ea
      go_wp2_with fail
      refine (entered_c _ m _ (hm.later HB1.out) OK.out).mono ?_
      rintro e w2 ⟨rfl, hb2⟩
      rw [← HX.out]
      go_wp2_with fail
      go_ret
      exact ⟨ret_bool HR.out, below_then HB1.out hb2⟩
    · rw [hbit] at ea HR
      simp only [if_true] at ea
      go_wp2_with fail
      refine (entered_c _ m _ (hm.later HB1.out) OK.out).mono ?_
      rintro e w2 ⟨rfl, hb2⟩
      rw [← HX.out]
      go_wp2_with fail
      go_ret
      exact ⟨ret_bool HR.out, below_then HB1.out hb2⟩
theorem l2Node_c (v : Value) (m : Mz) (x : Int) (w : World) (hm : MzAt w v m) : Calls Try.prog 103 #[v, .int .i64 x] w fun e w' => e = .returned (.bool (mazeB m && inB x 0 (m.size - 1))) ∧ Below w.heap.size w w' := by
  have hM := hm
  obtain ⟨⟨ad, cd, ak, ck, rfl, hd, hk'⟩, nd, nk⟩ := hM
  cases b1 : mazeB m
  · go_enter Try.func103, Try.ntmps103
    go_wp2_with fail
    refine (l2Maze_c _ m _ (hm.later (by (repeat (first | exact Below.refl _ _ | apply Below.drew | apply below_drewN | (refine Below.setCell ?_ (by first | omega | (simp; done) | (simp; omega) | (dsimp only; omega)) _) | (refine Below.alloc ?_ (by first | omega | (simp; done) | (simp; omega) | (dsimp only; omega)) _)))))).mono ?_
    rintro e w1 ⟨rfl, hb1⟩
    rw [b1]
    go_wp2_with fail
    go_ret
    exact ⟨ret_bool (by simp), below_then (by (repeat (first | exact Below.refl _ _ | apply Below.drew | apply below_drewN | (refine Below.setCell ?_ (by first | omega | (simp; done) | (simp; omega) | (dsimp only; omega)) _) | (refine Below.alloc ?_ (by first | omega | (simp; done) | (simp; omega) | (dsimp only; omega)) _)))) hb1⟩
  · have hs1 : 1 ≤ m.size := (mazeB_true.1 b1).s1
    have hs2 : m.size ≤ 12 := (mazeB_true.1 b1).s2
    go_enter Try.func103, Try.ntmps103
    go_wp2_with fail
    refine (l2Maze_c _ m _ (hm.later (by (repeat (first | exact Below.refl _ _ | apply Below.drew | apply below_drewN | (refine Below.setCell ?_ (by first | omega | (simp; done) | (simp; omega) | (dsimp only; omega)) _) | (refine Below.alloc ?_ (by first | omega | (simp; done) | (simp; omega) | (dsimp only; omega)) _)))))).mono ?_
    rintro e w1 ⟨rfl, hb1⟩
    have HB1 : Hid (Below w.heap.size w w1) := below_then (by (repeat (first | exact Below.refl _ _ | apply Below.drew | apply below_drewN | (refine Below.setCell ?_ (by first | omega | (simp; done) | (simp; omega) | (dsimp only; omega)) _) | (refine Below.alloc ?_ (by first | omega | (simp; done) | (simp; omega) | (dsimp only; omega)) _)))) hb1
    obtain ⟨q0, q1, q2, z1⟩ := box3 hb1 (by simp)
    clear hb1
    rw [b1]
    go_wp2_with (go_at_call 90; refine (l1In_c _ _ _ _).mono ?_; rintro e w2 ⟨rfl, rfl⟩)
    go_ret
    exact ⟨ret_bool (by simp), HB1.out⟩
set_option maxHeartbeats 1000000 in
theorem l5Entered_c (v : Value) (m : Mz) (x : Int) (w : World) (hm : MzAt w v m) : Calls Try.prog 70 #[v, .int .i64 x] w fun e w' => e = .returned (.bool (canB m x)) ∧ Below w.heap.size w w' := by
  have hM := hm
  obtain ⟨⟨ad, cd, ak, ck, rfl, hd, hk'⟩, nd, nk⟩ := hM
  cases b1 : (mazeB m && inB x 0 (m.size - 1))
  · have HR : Hid (false = canB m x) := by show _ = _; simp [canB, b1]
    go_enter Try.func70, Try.ntmps70
    go_wp2_with fail
    refine (l2Node_c _ m _ _ (hm.later (by (repeat (first | exact Below.refl _ _ | apply Below.drew | apply below_drewN | (refine Below.setCell ?_ (by first | omega | (simp; done) | (simp; omega) | (dsimp only; omega)) _) | (refine Below.alloc ?_ (by first | omega | (simp; done) | (simp; omega) | (dsimp only; omega)) _)))))).mono ?_
    rintro e w1 ⟨rfl, hb1⟩
    rw [b1]
    go_wp2_with fail
    go_ret
    exact ⟨ret_bool HR.out, below_then (by (repeat (first | exact Below.refl _ _ | apply Below.drew | apply below_drewN | (refine Below.setCell ?_ (by first | omega | (simp; done) | (simp; omega) | (dsimp only; omega)) _) | (refine Below.alloc ?_ (by first | omega | (simp; done) | (simp; omega) | (dsimp only; omega)) _)))) hb1⟩
  · have b1' := b1
    rw [Bool.and_eq_true] at b1'
    have OK := Lib.hid (mazeB_true.1 b1'.1)
    obtain ⟨x0, x1⟩ := inB_true.1 b1'.2
    have hfl := fullL_len OK.out false
    have HF : Hid (hasI (fullL m false) x = canB m x) := by show _ = _; rw [full_has OK.out]; simp [canB, b1, x0]
    clear b1'
    go_enter Try.func70, Try.ntmps70
    go_wp2_with fail
    refine (l2Node_c _ m _ _ (hm.later (by (repeat (first | exact Below.refl _ _ | apply Below.drew | apply below_drewN | (refine Below.setCell ?_ (by first | omega | (simp; done) | (simp; omega) | (dsimp only; omega)) _) | (refine Below.alloc ?_ (by first | omega | (simp; done) | (simp; omega) | (dsimp only; omega)) _)))))).mono ?_
    rintro e w1 ⟨rfl, hb1⟩
    have HB1 : Hid (Below w.heap.size w w1) := below_then (by (repeat (first | exact Below.refl _ _ | apply Below.drew | apply below_drewN | (refine Below.setCell ?_ (by first | omega | (simp; done) | (simp; omega) | (dsimp only; omega)) _) | (refine Below.alloc ?_ (by first | omega | (simp; done) | (simp; omega) | (dsimp only; omega)) _)))) hb1
    obtain ⟨q0, q1, q2, z1⟩ := box3 hb1 (by simp)
    clear hb1
    rw [b1]
    go_wp2_with fail
    refine (l5Full_c _ m false _ (hm.later HB1.out) OK.out).mono ?_
    rintro e w2 ⟨u, rfl, ho, hb2⟩
    obtain ⟨a2, c2, rfl, -, hc2⟩ := (Own.of ho).ic
    have HI := Lib.hid hc2; clear hc2 ho
    go_wp2_with fail
    refine (l1Has_c _ _ _ (fullL m false) _ _ rfl HI.out (by omega)).mono ?_
    rintro e w3 ⟨rfl, rfl⟩
    rw [HF.out]
    go_wp2_with fail
    go_ret
    exact ⟨ret_bool (by simp), below_then HB1.out hb2⟩
set_option maxRecDepth 100000 in
set_option maxHeartbeats 4000000 in
theorem specLatestPlace_c (v : Value) (m : Mz) (x : Int) (w : World) (hm : MzAt w v m) (wx : wfI x) : Calls Try.prog 29 #[v, .int .i64 x] w fun e w' =>
    e = .returned (.tuple #[.int .i64 (pLatestPlace m x).1, .bool (pLatestPlace m x).2]) ∧ Below w.heap.size w w' := by
  have hM := hm
  obtain ⟨⟨ad, cd, ak, ck, rfl, hd, hk'⟩, nd, nk⟩ := hM
  cases b1 : canB m x
  · have HD : Hid (pLatestPlace m x = (0, false)) := by show _ = _; simp [pLatestPlace, b1]
    go_enter Try.func29, Try.ntmps29
    go_wp2_with fail
    refine (l5Entered_c _ m _ _ (hm.later (by (repeat (first | exact Below.refl _ _ | apply Below.drew | apply below_drewN | (refine Below.setCell ?_ (by first | omega | (simp; done) | (simp; omega) | (dsimp only; omega)) _) | (refine Below.alloc ?_ (by first | omega | (simp; done) | (simp; omega) | (dsimp only; omega)) _)))))).mono ?_
    rintro e w1 ⟨rfl, hb1⟩
    rw [b1]
    go_wp2_with fail
    go_ret2
    exact ⟨ret_tup2 (by rw [HD.out] <;> rfl), below_then (by (repeat (first | exact Below.refl _ _ | apply Below.drew | apply below_drewN | (refine Below.setCell ?_ (by first | omega | (simp; done) | (simp; omega) | (dsimp only; omega)) _) | (refine Below.alloc ?_ (by first | omega | (simp; done) | (simp; omega) | (dsimp only; omega)) _)))) hb1⟩
  · have b1' := b1
    simp only [canB, Bool.and_eq_true] at b1'
    have ok := mazeB_true.1 b1'.1.1
    obtain ⟨x0, x1⟩ := inB_true.1 b1'.1.2
    have hs1 : 1 ≤ m.size := ok.s1
    have hs2 : m.size ≤ 12 := ok.s2
    have OK := Lib.hid ok; clear ok b1'
    by_cases hx0 : x = 0
    · subst hx0
      have HD : Hid (pLatestPlace m 0 = (0, true)) := by
        show _ = _
        unfold pLatestPlace
        rw [b1, largN_none (by rw [andn_bit]; simp)]
        rfl
      go_enter Try.func29, Try.ntmps29
      go_wp2_with fail
      refine (l5Entered_c _ m _ _ (hm.later (by (repeat (first | exact Below.refl _ _ | apply Below.drew | apply below_drewN | (refine Below.setCell ?_ (by first | omega | (simp; done) | (simp; omega) | (dsimp only; omega)) _) | (refine Below.alloc ?_ (by first | omega | (simp; done) | (simp; omega) | (dsimp only; omega)) _)))))).mono ?_
      rintro e w1 ⟨rfl, hb1⟩
      rw [b1]
      go_wp2_with fail
      go_ret2
      exact ⟨ret_tup2 (by rw [HD.out] <;> rfl), below_then (by (repeat (first | exact Below.refl _ _ | apply Below.drew | apply below_drewN | (refine Below.setCell ?_ (by first | omega | (simp; done) | (simp; omega) | (dsimp only; omega)) _) | (refine Below.alloc ?_ (by first | omega | (simp; done) | (simp; omega) | (dsimp only; omega)) _)))) hb1⟩
    obtain ⟨xn, rfl⟩ := Int.eq_ofNat_of_zero_le x0
    have HD : Hid (pLatestPlace m xn = (popc (largN m (andn (allN m) (2 ^ xn))), true)) := by show _ = _; simp [pLatestPlace, b1]
    rcases Nat.eq_zero_or_pos xn with hx0' | hx0'
    · exact absurd (by omega) hx0
    · have hin : InM m (andn (allN m) (2 ^ xn)) := less_in (allN_in m hs1)
      have hb0 : (andn (allN m) (2 ^ xn)).testBit 0 = true := by
        rw [andn_bit, allN_bit, Nat.testBit_two_pow]
        simp; omega
      obtain ⟨sn, hsn⟩ := Int.eq_ofNat_of_zero_le (show 0 ≤ m.size by omega)
      have hal := all_less sn (by omega) xn (by omega)
      have hall : allN m = 2 ^ sn - 1 := by unfold allN; rw [hsn]; rfl
      rw [← hall] at hal
      obtain ⟨p, HP, ep, hp1, hp2⟩ := shl_le sn (by omega)
      obtain ⟨q, HQ, eq, hq1, hq2⟩ := shl_le xn (by omega)
      rw [← HQ.out] at hal hin hb0 HD
      rw [hall, ← HP.out] at hal
      have hall' : allN m = p - 1 := by rw [hall, HP.out]
      rw [hall'] at hin hb0 HD
      obtain ⟨C, hC⟩ : ∃ C, C = andn (p - 1) q := ⟨_, rfl⟩
      rw [← hC] at hal hin hb0 HD
      have HLG : Hid (largN m C < 4096) := itL_lt OK.out C _
      have HLN : Hid ((mem (largN m C)).length = popN (largN m C)) := mem_popN HLG.out
      have hC2 : C < 4096 := hin.lt OK.out
      have hsub : (p : Int) - 1 - (q : Int) = (C : Int) := by have := hal.1; have := hal.2; omega
      have hw : IntKind.i64.wrap (IntKind.i64.wrap ((p : Int) - 1) - (q : Int)) = (C : Int) := by
        rw [IntWalk.i64_in ((p : Int) - 1) (by omega), hsub, IntWalk.i64_in _ (by omega)]
      have HW := Lib.hid hw; clear hw
      have HIN := Lib.hid hin
      have HB0 := Lib.hid hb0
      have hne : ¬ (xn = 0) := by omega
      clear hx0
      clear hC hal hin hb0 hall hall'
      have HSN := Lib.hid hsn
      obtain ⟨s, gs, ps⟩ := m
      dsimp only at *
      subst hsn
      have hp3 : (1 : Int) ≤ (p : Int) := by omega
      go_enter Try.func29, Try.ntmps29
      go_wp2_with fail
      refine (l5Entered_c _ ⟨(sn : Int), gs, ps⟩ _ _ (hm.later (by (repeat (first | exact Below.refl _ _ | apply Below.drew | apply below_drewN | (refine Below.setCell ?_ (by first | omega | (simp; done) | (simp; omega) | (dsimp only; omega)) _) | (refine Below.alloc ?_ (by first | omega | (simp; done) | (simp; omega) | (dsimp only; omega)) _)))))).mono ?_
      rintro e w1 ⟨rfl, hb1⟩
      have HB1 : Hid (Below w.heap.size w w1) := below_then (by (repeat (first | exact Below.refl _ _ | apply Below.drew | apply below_drewN | (refine Below.setCell ?_ (by first | omega | (simp; done) | (simp; omega) | (dsimp only; omega)) _) | (refine Below.alloc ?_ (by first | omega | (simp; done) | (simp; omega) | (dsimp only; omega)) _)))) hb1
      obtain ⟨q0, q1, q2, z1⟩ := box3 hb1 (by simp)
      clear hb1
      rw [b1]
      obtain ⟨wo, rfl⟩ : ∃ wo : World, wo = w1 := ⟨_, rfl⟩
      go_wp2_with fail
      go_region_held3 (fun W => W.cell? ⟨w.heap.size, 0, none⟩ = some (.int .i64 (sn : Int)) ∧ W.cell? ⟨w.heap.size, 1, none⟩ = some (.slice ad gs.length cd) ∧ W.cell? ⟨w.heap.size, 2, none⟩ = some (.slice ak ps.length ck))
        (first | exact ⟨q0, q1, q2⟩ | exact ⟨r0, r1, r2⟩ | exact ⟨s0, s1, s2⟩)
        (first | (go_at_call 66; rw [HW.out]; refine (l5Largest_c _ ⟨(sn : Int), gs, ps⟩ C _ (hm.later HB1.out.drew) OK.out HIN.out HB0.out).mono ?_; rintro e w4 ⟨rfl, hb4⟩; have HB4 := Lib.hid (below_then HB1.out.drew hb4); have r0 : w4.cell? ⟨w.heap.size, 0, none⟩ = some (.int .i64 (sn : Int)) := (hb4.cell (p := ⟨w.heap.size, 0, none⟩) (show w.heap.size < wo.heap.size by assumption)).trans q0; have r1 : w4.cell? ⟨w.heap.size, 1, none⟩ = some (.slice ad gs.length cd) := (hb4.cell (p := ⟨w.heap.size, 1, none⟩) (show w.heap.size < wo.heap.size by assumption)).trans q1; have r2 : w4.cell? ⟨w.heap.size, 2, none⟩ = some (.slice ak ps.length ck) := (hb4.cell (p := ⟨w.heap.size, 2, none⟩) (show w.heap.size < wo.heap.size by assumption)).trans q2; have z4 : w.heap.size < w4.heap.size := Nat.lt_of_lt_of_le (show w.heap.size < wo.heap.size by assumption) hb4.size) | (go_at_call 65; refine (l5Nodes_c (largN ⟨(sn : Int), gs, ps⟩ C) HLG.out _).mono ?_; rintro e w5 ⟨u, rfl, hou, hb5⟩; obtain ⟨au, cu, rfl, -, hi⟩ := (Own.of hou).ic; have HI := Lib.hid hi; clear hi hou; have s0 : w5.cell? ⟨w.heap.size, 0, none⟩ = some (.int .i64 (sn : Int)) := (hb5.cell (p := ⟨w.heap.size, 0, none⟩) (show w.heap.size < w4.heap.size by assumption)).trans r0; have s1 : w5.cell? ⟨w.heap.size, 1, none⟩ = some (.slice ad gs.length cd) := (hb5.cell (p := ⟨w.heap.size, 1, none⟩) (show w.heap.size < w4.heap.size by assumption)).trans r1; have s2 : w5.cell? ⟨w.heap.size, 2, none⟩ = some (.slice ak ps.length ck) := (hb5.cell (p := ⟨w.heap.size, 2, none⟩) (show w.heap.size < w4.heap.size by assumption)).trans r2))
      go_wp2
      go_ret2
      exact ⟨ret_tup2 (by rw [HD.out]; unfold popc; rw [← HLN.out]; rfl), below_then HB4.out hb5⟩
set_option maxHeartbeats 2000000 in
theorem implLatestPlace_c (v : Value) (m : Mz) (x : Int) (w : World) (hm : MzAt w v m) (wx : wfI x) : Calls Try.prog 30 #[v, .int .i64 x] w fun e w' =>
    e = .returned (.tuple #[.int .i64 (pLatestPlace m x).1, .bool (pLatestPlace m x).2]) ∧ Below w.heap.size w w' := by
  have hM := hm
  obtain ⟨⟨ad, cd, ak, ck, rfl, hd, hk'⟩, nd, nk⟩ := hM
  cases b1 : canB m x
  · have HD : Hid (pLatestPlace m x = (0, false)) := by show _ = _; simp [pLatestPlace, b1]
    go_enter Try.func30, Try.ntmps30
    go_wp2_with fail
    refine (canEnter_c _ m _ _ (hm.later (by (repeat (first | exact Below.refl _ _ | apply Below.drew | apply below_drewN | (refine Below.setCell ?_ (by first | omega | (simp; done) | (simp; omega) | (dsimp only; omega)) _) | (refine Below.alloc ?_ (by first | omega | (simp; done) | (simp; omega) | (dsimp only; omega)) _)))))).mono ?_
    rintro e w1 ⟨rfl, hb1⟩
    rw [b1]
    go_wp2_with fail
    go_ret2
    exact ⟨ret_tup2 (by rw [HD.out] <;> rfl), below_then (by (repeat (first | exact Below.refl _ _ | apply Below.drew | apply below_drewN | (refine Below.setCell ?_ (by first | omega | (simp; done) | (simp; omega) | (dsimp only; omega)) _) | (refine Below.alloc ?_ (by first | omega | (simp; done) | (simp; omega) | (dsimp only; omega)) _)))) hb1⟩
  · have b1' := b1
    simp only [canB, Bool.and_eq_true] at b1'
    have ok := mazeB_true.1 b1'.1.1
    obtain ⟨x0, x1⟩ := inB_true.1 b1'.1.2
    have hs2 : m.size ≤ 12 := ok.s2
    have OK := Lib.hid ok; clear ok b1'
    obtain ⟨xn, rfl⟩ := Int.eq_ofNat_of_zero_le x0
    have HD : Hid (pLatestPlace m xn = (popc (largN m (andn (allN m) (2 ^ xn))), true)) := by show _ = _; simp [pLatestPlace, b1]
    obtain ⟨C, hC⟩ : ∃ C, C = andn (allN m) (2 ^ xn) := ⟨_, rfl⟩
    rw [← hC] at HD
    have HC := Lib.hid hC
    have HLG : Hid (largN m C < 4096) := itL_lt OK.out C _
    obtain ⟨X, hX⟩ : ∃ X, X = largN m C := ⟨_, rfl⟩
    rw [← hX] at HD HLG
    have HX := Lib.hid hX
    have hXl := HLG.out
    clear hC hX
    go_enter Try.func30, Try.ntmps30
    go_wp2_with fail
    refine (canEnter_c _ m _ _ (hm.later (by (repeat (first | exact Below.refl _ _ | apply Below.drew | apply below_drewN | (refine Below.setCell ?_ (by first | omega | (simp; done) | (simp; omega) | (dsimp only; omega)) _) | (refine Below.alloc ?_ (by first | omega | (simp; done) | (simp; omega) | (dsimp only; omega)) _)))))).mono ?_
    rintro e w1 ⟨rfl, hb1⟩
    have HB1 : Hid (Below w.heap.size w w1) := below_then (by (repeat (first | exact Below.refl _ _ | apply Below.drew | apply below_drewN | (refine Below.setCell ?_ (by first | omega | (simp; done) | (simp; omega) | (dsimp only; omega)) _) | (refine Below.alloc ?_ (by first | omega | (simp; done) | (simp; omega) | (dsimp only; omega)) _)))) hb1
    obtain ⟨q0, q1, q2, z1⟩ := box3 hb1 (by simp)
    clear hb1
    rw [b1]
    go_wp2_with fail
    refine (without_c _ m xn _ (hm.later HB1.out) OK.out (by omega)).mono ?_
    rintro e w2 ⟨rfl, hb2⟩
    rw [← HC.out, ← HX.out]
    go_wp2_with (go_at_call 72; refine (onesCountN_c X (by omega) _).mono ?_; rintro e w3 ⟨rfl, rfl⟩)
    go_ret2
    exact ⟨ret_tup2 (by rw [HD.out] <;> rfl), below_then HB1.out hb2⟩
end Go.Proofs.Ytbjcabphiddjgaa
