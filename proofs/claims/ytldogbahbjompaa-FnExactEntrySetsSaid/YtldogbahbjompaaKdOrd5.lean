/- Contracts of LatestPlace. -/
import Derived.Test.YtldogbahbjompaaKdOrd4
import Derived.Test.YtldogbahbjompaaKdOrd2
import Derived.Test.YtldogbahbjompaaKdBitsN
set_option linter.unusedVariables false
set_option linter.unusedSimpArgs false
namespace Go.KD
open Go.RowKit
noncomputable def canB (m : Mz) (x : Int) : Bool := mazeB m && inB x 0 (m.size - 1) && (largN m (allN m)).testBit x.toNat
noncomputable def pLatestPlace (m : Mz) (x : Int) : Int × Bool := if canB m x then (popc (largN m (andn (allN m) (2 ^ x.toNat))), true) else (0, false)
theorem shl_le (y : Nat) (hy : y ≤ 12) : ∃ p : Nat, Hid (p = 2 ^ y) ∧ IntKind.i64.wrap (2 ^ y) = (p : Int) ∧ 1 ≤ p ∧ p ≤ 4096 := by
  refine ⟨2 ^ y, rfl, ?_, Nat.two_pow_pos y, Nat.pow_le_pow_right (n := 2) (by omega) hy⟩
  have h : 2 ^ y ≤ 2 ^ 12 := Nat.pow_le_pow_right (by omega) hy
  have e : ((2 ^ y : Nat) : Int) = 2 ^ y := by simp
  rw [← e]
  generalize 2 ^ y = q at h
  exact IntWalk.i64_in _ (by omega)
theorem allN_in (m : Mz) (h : 1 ≤ m.size) : InM m (allN m) := by
  intro i hi
  rw [allN_bit] at hi
  have : i < m.size.toNat := by simpa using hi
  omega
theorem less_in {m : Mz} {n b : Nat} (h : InM m n) : InM m (andn n b) := by
  intro i hi
  rw [andn_bit, Bool.and_eq_true] at hi
  exact h i hi.1
theorem all_less : ∀ s, s < 13 → ∀ x, x < s → 2 ^ s - 1 - 2 ^ x = andn (2 ^ s - 1) (2 ^ x) ∧ 2 ^ x ≤ 2 ^ s - 1 := by decide
theorem nexN_zero (m : Mz) : nexN m 0 = 0 := by
  unfold nexN
  rw [mem_zero]
  simp [unionL, andn]
theorem itL_none {m : Mz} {code : Nat} (h : code.testBit 0 = false) : ∀ k, itL m code k = 0
  | 0 => by
    show code &&& 1 = 0
    rw [Nat.and_one_is_mod]
    rw [Nat.testBit_zero] at h
    have : ¬ (code % 2 = 1) := by simpa using h
    omega
  | k + 1 => by
    show lgN m code (itL m code k) = 0
    rw [itL_none h k, lgN, nexN_zero]
    simp
theorem largN_none {m : Mz} {code : Nat} (h : code.testBit 0 = false) : largN m code = 0 := itL_none h _
theorem fuFin_has {m : Mz} (ok : MzOk m) (last : Bool) (x : Int) (k : Nat) : hasI (fuFin m last k) x = (decide (0 ≤ x) && (fuK m last k).2.testBit x.toNat) := by
  have hl := fuK_lt ok last k
  rw [Bool.eq_iff_iff, hasI_iff]
  unfold fuFin
  rw [fuK_in ok last k x, hasI_mem (by omega)]
  simp
theorem full_has {m : Mz} (ok : MzOk m) (last : Bool) (x : Int) : hasI (fullL m last) x = (decide (0 ≤ x) && (largN m (allN m)).testBit x.toNat) := by
  rw [entered_eq ok last]
  exact fuFin_has ok last x _
theorem nodesB_one (m : Mz) (x : Int) : nodesB m [x] = inB x 0 (m.size - 1) := by simp [nodesB, anyP]
end Go.KD
namespace Go.Proofs.Ytldogbahbjompaa
open Go.RowKit Go.KD
attribute [local go_sem] later_cell later_frozen
theorem onesCountN_c (x : Nat) (hx : x < 4096) (w : World) : Calls Try.prog 112 #[.int .u64 x] w fun e w' => e = .returned (.int .i64 (popc x)) ∧ w' = w := by
  go_enter Try.func112, Try.ntmps112
  go_wp2_with (go_at_call 149; refine (onesCount64N_c x hx _).mono ?_; rintro e w1 ⟨rfl, rfl⟩)
  go_ret
  exact ⟨rfl, rfl⟩
theorem allNodes_c (v : Value) (m : Mz) (w : World) (hm : MzAt w v m) (ok : MzOk m) :
    Calls Try.prog 126 #[v] w fun e w' => e = .returned (.int .i64 (allN m)) ∧ Below w.heap.size w w' := by
  obtain ⟨⟨ad, cd, ak, ck, rfl, hd, hk'⟩, nd, nk⟩ := hm
  have hs1 : 1 ≤ m.size := ok.s1
  have hs2 : m.size ≤ 12 := ok.s2
  clear ok
  obtain ⟨s, gs, ps⟩ := m
  dsimp only at *
  obtain ⟨sn, rfl⟩ := Int.eq_ofNat_of_zero_le (show 0 ≤ s by omega)
  obtain ⟨p, HP, ep, hp1, hp2⟩ := shl_le sn (by omega)
  have HR : Hid ((allN ⟨(sn : Int), gs, ps⟩ : Nat) = p - 1) := by show _ = _; unfold allN; rw [HP.out]; rfl
  go_enter Try.func126, Try.ntmps126
  go_wp2
  go_ret
  exact ⟨ret_int (by rw [HR.out]; omega), by (repeat (first | exact Below.refl _ _ | apply Below.drew | apply below_drewN | (refine Below.setCell ?_ (by first | omega | (simp; done) | (simp; omega) | (dsimp only; omega)) _) | (refine Below.alloc ?_ (by first | omega | (simp; done) | (simp; omega) | (dsimp only; omega)) _)))⟩
set_option maxHeartbeats 1000000 in
theorem entered_c (v : Value) (m : Mz) (w : World) (hm : MzAt w v m) (ok : MzOk m) :
    Calls Try.prog 132 #[v] w fun e w' => e = .returned (.int .i64 (largN m (allN m))) ∧ Below w.heap.size w w' := by
  have hM := hm
  obtain ⟨⟨ad, cd, ak, ck, rfl, hd, hk'⟩, nd, nk⟩ := hM
  have HIN := Lib.hid (allN_in m ok.s1)
  have OK := Lib.hid ok; clear ok
  go_enter Try.func132, Try.ntmps132
  go_wp2
  generalize hW : w.alloc (.cells #[.int .i64 m.size, .slice ad m.doors.length cd, .slice ak m.keys.length ck] 29) = wo
  have hb : Below (w.heap.size + 1) (w.alloc (.cells #[.int .i64 m.size, .slice ad m.doors.length cd, .slice ak m.keys.length ck] 29)) wo := by rw [hW]; exact Below.refl _ _
  have HB : Hid (Below w.heap.size w wo) := below_box hb (by omega)
  obtain ⟨q0, q1, q2, z1⟩ := box3 hb (by omega)
  clear hb hW
  go_region_held3 (fun W => W.cell? ⟨w.heap.size, 0, none⟩ = some (.int .i64 m.size) ∧ W.cell? ⟨w.heap.size, 1, none⟩ = some (.slice ad m.doors.length cd) ∧ W.cell? ⟨w.heap.size, 2, none⟩ = some (.slice ak m.keys.length ck))
    (first | exact ⟨q0, q1, q2⟩ | exact ⟨r0, r1, r2⟩ | exact ⟨s0, s1, s2⟩)
    (first | (go_at_call 126; refine (allNodes_c _ m _ (hm.later HB.out.drew) OK.out).mono ?_; rintro e w2 ⟨rfl, hb2⟩; have HB2 := Lib.hid (below_then HB.out.drew hb2); have r0 : w2.cell? ⟨w.heap.size, 0, none⟩ = some (.int .i64 m.size) := (hb2.cell (p := ⟨w.heap.size, 0, none⟩) (show w.heap.size < wo.heap.size by assumption)).trans q0; have r1 : w2.cell? ⟨w.heap.size, 1, none⟩ = some (.slice ad m.doors.length cd) := (hb2.cell (p := ⟨w.heap.size, 1, none⟩) (show w.heap.size < wo.heap.size by assumption)).trans q1; have r2 : w2.cell? ⟨w.heap.size, 2, none⟩ = some (.slice ak m.keys.length ck) := (hb2.cell (p := ⟨w.heap.size, 2, none⟩) (show w.heap.size < wo.heap.size by assumption)).trans q2; have z2 : w.heap.size < w2.heap.size := Nat.lt_of_lt_of_le (show w.heap.size < wo.heap.size by assumption) hb2.size) | (go_at_call 127; refine (largest_c _ m (allN m) _ (hm.later HB2.out) OK.out HIN.out).mono ?_; rintro e w3 ⟨rfl, hb3⟩; have s0 : w3.cell? ⟨w.heap.size, 0, none⟩ = some (.int .i64 m.size) := (hb3.cell (p := ⟨w.heap.size, 0, none⟩) (show w.heap.size < w2.heap.size by assumption)).trans r0; have s1 : w3.cell? ⟨w.heap.size, 1, none⟩ = some (.slice ad m.doors.length cd) := (hb3.cell (p := ⟨w.heap.size, 1, none⟩) (show w.heap.size < w2.heap.size by assumption)).trans r1; have s2 : w3.cell? ⟨w.heap.size, 2, none⟩ = some (.slice ak m.keys.length ck) := (hb3.cell (p := ⟨w.heap.size, 2, none⟩) (show w.heap.size < w2.heap.size by assumption)).trans r2))
  go_wp2
  go_ret
  exact ⟨rfl, below_then HB2.out hb3⟩
set_option maxHeartbeats 2000000 in
theorem canEnter_c (v : Value) (m : Mz) (x : Int) (w : World) (hm : MzAt w v m) :
    Calls Try.prog 87 #[v, .int .i64 x] w fun e w' => e = .returned (.bool (canB m x)) ∧ Below w.heap.size w w' := by
  have hM := hm
  obtain ⟨⟨ad, cd, ak, ck, rfl, hd, hk'⟩, nd, nk⟩ := hM
  cases b1 : (mazeB m && inB x 0 (m.size - 1))
  · have HR : Hid (false = canB m x) := by show _ = _; simp [canB, b1]
    go_enter Try.func87, Try.ntmps87
    go_wp2_with fail
    refine (isNode_c _ m _ 1 1 [x] _ (hm.later (by (repeat (first | exact Below.refl _ _ | apply Below.drew | apply below_drewN | (refine Below.setCell ?_ (by first | omega | (simp; done) | (simp; omega) | (dsimp only; omega)) _) | (refine Below.alloc ?_ (by first | omega | (simp; done) | (simp; omega) | (dsimp only; omega)) _))))) rfl (ic_lit _ _ _ _ _ (by simp) rfl) (by omega)).mono ?_
    rintro e w1 ⟨rfl, hb1⟩
    rw [nodesB_one, b1]
    go_wp2_with fail
    go_ret
    exact ⟨ret_bool HR.out, below_then (by (repeat (first | exact Below.refl _ _ | apply Below.drew | apply below_drewN | (refine Below.setCell ?_ (by first | omega | (simp; done) | (simp; omega) | (dsimp only; omega)) _) | (refine Below.alloc ?_ (by first | omega | (simp; done) | (simp; omega) | (dsimp only; omega)) _)))) hb1⟩
  · have b1' := b1
    rw [Bool.and_eq_true] at b1'
    have ok := mazeB_true.1 b1'.1
    obtain ⟨x0, x1⟩ := inB_true.1 b1'.2
    have hs2 : m.size ≤ 12 := ok.s2
    have hal : Hid (largN m (allN m) < 4096) := itL_lt ok _ _
    have OK := Lib.hid ok; clear ok b1'
    obtain ⟨xn, rfl⟩ := Int.eq_ofNat_of_zero_le x0
    have HR : Hid ((largN m (allN m)).testBit xn = canB m xn) := by show _ = _; simp [canB, b1]
    obtain ⟨X, hX⟩ : ∃ X, X = largN m (allN m) := ⟨_, rfl⟩
    rw [← hX] at HR hal
    have HX := Lib.hid hX; clear hX
    have hX40 := hal.out
    obtain ⟨y, HY, ey⟩ := shr_at X xn
    have hy : y < 1099511627776 := by
      have := HY.out; rw [Nat.shiftRight_eq_div_pow] at *; have := Nat.div_le_self X (2 ^ xn); omega
    have ea : bits .and .i64 (y : Int) 1 = ((y % 2 : Nat) : Int) := and1 hy
    have hb := bit_shr X xn
    rw [← HY.out] at hb
    rw [hb] at ea
    clear hb
    go_enter Try.func87, Try.ntmps87
    go_wp2_with fail
    refine (isNode_c _ m _ 1 1 [(xn : Int)] _ (hm.later (by (repeat (first | exact Below.refl _ _ | apply Below.drew | apply below_drewN | (refine Below.setCell ?_ (by first | omega | (simp; done) | (simp; omega) | (dsimp only; omega)) _) | (refine Below.alloc ?_ (by first | omega | (simp; done) | (simp; omega) | (dsimp only; omega)) _))))) rfl (ic_lit _ _ _ _ _ (by simp) rfl) (by omega)).mono ?_
    rintro e w1 ⟨rfl, hb1⟩
    have HB1 : Hid (Below w.heap.size w w1) := below_then (by (repeat (first | exact Below.refl _ _ | apply Below.drew | apply below_drewN | (refine Below.setCell ?_ (by first | omega | (simp; done) | (simp; omega) | (dsimp only; omega)) _) | (refine Below.alloc ?_ (by first | omega | (simp; done) | (simp; omega) | (dsimp only; omega)) _)))) hb1
    have HX1 : Hid (Below (w.heap.size + 1) (w.alloc (.cells #[.int .i64 m.size, .slice ad m.doors.length cd, .slice ak m.keys.length ck] 29)) w1) := ((Below.refl _ _).alloc (by simp) _).trans (hb1.mono (by simp))
    obtain ⟨q0, q1, q2, z1⟩ := box3 HX1.out (by simp)
    rw [nodesB_one, b1]
    clear hb1
    cases hbit : X.testBit xn
    · rw [hbit] at ea HR
      simp only [Bool.false_eq_true, if_false] at ea
      go_wp2_with fail
      refine (entered_c _ m _ (hm.later HB1.out) OK.out).mono ?_
      rintro e w2 ⟨rfl, hb2⟩
      rw [← HX.out]
      go_wp2_with fail
      go_ret
      exact ⟨ret_bool HR.out, below_then HB1.out hb2⟩
    · rw [hbit] at ea HR
      simp only [if_true] at ea
      go_wp2_with fail
      refine (entered_c _ m _ (hm.later HB1.out) OK.out).mono ?_
      rintro e w2 ⟨rfl, hb2⟩
      rw [← HX.out]
      go_wp2_with fail
      go_ret
      exact ⟨ret_bool HR.out, below_then HB1.out hb2⟩
theorem l2Node_c (v : Value) (m : Mz) (x : Int) (w : World) (hm : MzAt w v m) : Calls Try.prog 128 #[v, .int .i64 x] w fun e w' => e = .returned (.bool (mazeB m && inB x 0 (m.size - 1))) ∧ Below w.heap.size w w' := by
  have hM := hm
  obtain ⟨⟨ad, cd, ak, ck, rfl, hd, hk'⟩, nd, nk⟩ := hM
  cases b1 : mazeB m
  · go_enter Try.func128, Try.ntmps128
    go_wp2_with fail
    refine (l2Maze_c _ m _ (hm.later (by (repeat (first | exact Below.refl _ _ | apply Below.drew | apply below_drewN | (refine Below.setCell ?_ (by first | omega | (simp; done) | (simp; omega) | (dsimp only; omega)) _) | (refine Below.alloc ?_ (by first | omega | (simp; done) | (simp; omega) | (dsimp only; omega)) _)))))).mono ?_
    rintro e w1 ⟨rfl, hb1⟩
    rw [b1]
    go_wp2_with fail
    go_ret
    exact ⟨ret_bool (by simp), below_then (by (repeat (first | exact Below.refl _ _ | apply Below.drew | apply below_drewN | (refine Below.setCell ?_ (by first | omega | (simp; done) | (simp; omega) | (dsimp only; omega)) _) | (refine Below.alloc ?_ (by first | omega | (simp; done) | (simp; omega) | (dsimp only; omega)) _)))) hb1⟩
  · have hs1 : 1 ≤ m.size := (mazeB_true.1 b1).s1
    have hs2 : m.size ≤ 12 := (mazeB_true.1 b1).s2
    go_enter Try.func128, Try.ntmps128
    go_wp2_with fail
    refine (l2Maze_c _ m _ (hm.later (by (repeat (first | exact Below.refl _ _ | apply Below.drew | apply below_drewN | (refine Below.setCell ?_ (by first | omega | (simp; done) | (simp; omega) | (dsimp only; omega)) _) | (refine Below.alloc ?_ (by first | omega | (simp; done) | (simp; omega) | (dsimp only; omega)) _)))))).mono ?_
    rintro e w1 ⟨rfl, hb1⟩
    have HB1 : Hid (Below w.heap.size w w1) := below_then (by (repeat (first | exact Below.refl _ _ | apply Below.drew | apply below_drewN | (refine Below.setCell ?_ (by first | omega | (simp; done) | (simp; omega) | (dsimp only; omega)) _) | (refine Below.alloc ?_ (by first | omega | (simp; done) | (simp; omega) | (dsimp only; omega)) _)))) hb1
    obtain ⟨q0, q1, q2, z1⟩ := box3 hb1 (by simp)
    clear hb1
    rw [b1]
    go_wp2_with (go_at_call 97; refine (l1In_c _ _ _ _).mono ?_; rintro e w2 ⟨rfl, rfl⟩)
    go_ret
    exact ⟨ret_bool (by simp), HB1.out⟩
set_option maxHeartbeats 1000000 in
theorem l5Entered_c (v : Value) (m : Mz) (x : Int) (w : World) (hm : MzAt w v m) : Calls Try.prog 85 #[v, .int .i64 x] w fun e w' => e = .returned (.bool (canB m x)) ∧ Below w.heap.size w w' := by
  have hM := hm
  obtain ⟨⟨ad, cd, ak, ck, rfl, hd, hk'⟩, nd, nk⟩ := hM
  cases b1 : (mazeB m && inB x 0 (m.size - 1))
  · have HR : Hid (false = canB m x) := by show _ = _; simp [canB, b1]
    go_enter Try.func85, Try.ntmps85
    go_wp2_with fail
    refine (l2Node_c _ m _ _ (hm.later (by (repeat (first | exact Below.refl _ _ | apply Below.drew | apply below_drewN | (refine Below.setCell ?_ (by first | omega | (simp; done) | (simp; omega) | (dsimp only; omega)) _) | (refine Below.alloc ?_ (by first | omega | (simp; done) | (simp; omega) | (dsimp only; omega)) _)))))).mono ?_
    rintro e w1 ⟨rfl, hb1⟩
    rw [b1]
    go_wp2_with fail
    go_ret
    exact ⟨ret_bool HR.out, below_then (by (repeat (first | exact Below.refl _ _ | apply Below.drew | apply below_drewN | (refine Below.setCell ?_ (by first | omega | (simp; done) | (simp; omega) | (dsimp only; omega)) _) | (refine Below.alloc ?_ (by first | omega | (simp; done) | (simp; omega) | (dsimp only; omega)) _)))) hb1⟩
  · have b1' := b1
    rw [Bool.and_eq_true] at b1'
    have OK := Lib.hid (mazeB_true.1 b1'.1)
    obtain ⟨x0, x1⟩ := inB_true.1 b1'.2
    have hfl := fullL_len OK.out false
    have HF : Hid (hasI (fullL m false) x = canB m x) := by show _ = _; rw [full_has OK.out]; simp [canB, b1, x0]
    clear b1'
    go_enter Try.func85, Try.ntmps85
    go_wp2_with fail
    refine (l2Node_c _ m _ _ (hm.later (by (repeat (first | exact Below.refl _ _ | apply Below.drew | apply below_drewN | (refine Below.setCell ?_ (by first | omega | (simp; done) | (simp; omega) | (dsimp only; omega)) _) | (refine Below.alloc ?_ (by first | omega | (simp; done) | (simp; omega) | (dsimp only; omega)) _)))))).mono ?_
    rintro e w1 ⟨rfl, hb1⟩
    have HB1 : Hid (Below w.heap.size w w1) := below_then (by (repeat (first | exact Below.refl _ _ | apply Below.drew | apply below_drewN | (refine Below.setCell ?_ (by first | omega | (simp; done) | (simp; omega) | (dsimp only; omega)) _) | (refine Below.alloc ?_ (by first | omega | (simp; done) | (simp; omega) | (dsimp only; omega)) _)))) hb1
    obtain ⟨q0, q1, q2, z1⟩ := box3 hb1 (by simp)
    clear hb1
    rw [b1]
    go_wp2_with fail
    refine (l5Full_c _ m false _ (hm.later HB1.out) OK.out).mono ?_
    rintro e w2 ⟨u, rfl, ho, hb2⟩
    obtain ⟨a2, c2, rfl, -, hc2⟩ := (Own.of ho).ic
    have HI := Lib.hid hc2; clear hc2 ho
    go_wp2_with fail
    refine (l1Has_c _ _ _ (fullL m false) _ _ rfl HI.out (by omega)).mono ?_
    rintro e w3 ⟨rfl, rfl⟩
    rw [HF.out]
    go_wp2_with fail
    go_ret
    exact ⟨ret_bool (by simp), below_then HB1.out hb2⟩
