/- Contracts of SetWins. -/
import Derived.Test.YtbjcabphiddjgaaKdClose
set_option linter.unusedVariables false
set_option linter.unusedSimpArgs false
namespace Go.KD
open Go.RowKit
noncomputable def pSetWins (m : Mz) (s : Int) : Bool × Bool := if askB m s then (setWinB m s.toNat, true) else (false, false)
def setBarB (m : Mz) (s : Nat) : Bool := !setWinB m (63 - s)
noncomputable def pSetBars (m : Mz) (s : Int) : Bool × Bool := if askB m s then (setBarB m s.toNat, true) else (false, false)
def barsK (m : Mz) (k : Nat) : List Bool := (List.range k).map fun t => setBarB m t
theorem barsK_snoc (m : Mz) (k : Nat) : barsK m (k + 1) = barsK m k ++ [setBarB m k] := by simp [barsK, List.range_succ]
@[simp] theorem barsK_len (m : Mz) (k : Nat) : (barsK m k).length = k := by simp [barsK]
theorem barsK_at {m : Mz} {n k : Nat} (hk : k < n) : (barsK m n)[k]! = setBarB m k := by
  rw [getElem!_pos _ k (by simpa using hk)]; simp [barsK]
theorem ask_parts {m : Mz} {s : Int} (h : askB m s = true) : MzOk m ∧ ∃ sn : Nat, s = sn ∧ sn < 64 := by
  simp only [askB, Bool.and_eq_true] at h
  obtain ⟨s0, s1⟩ := setB_true.1 h.2
  obtain ⟨sn, rfl⟩ := Int.eq_ofNat_of_zero_le s0
  exact ⟨mazeB_true.1 h.1, sn, rfl, by omega⟩
theorem own_bool {w : World} {lo g n cap : Nat} {e : TypeId} {l : List Bool} (h : w.ownsRow lo e 1 (.slice (some ⟨g, 0, none⟩) n cap) n (bools l)) (k : Nat) (hk : k < n) (hl : l.length = n) : w.cell? ⟨g, k, none⟩ = some (.bool l[k]!) := by
  rw [h.cellAt k (by omega), bools_at (by omega)]
end Go.KD
namespace Go.Proofs.Ytbjcabphiddjgaa
open Go.RowKit Go.KD
attribute [local go_sem] later_cell later_frozen
theorem setBars_c (v : Value) (m : Mz) (s : Nat) (w : World) (hm : MzAt w v m) (ok : MzOk m) (hs : s < 64) : Calls Try.prog 79 #[v, .int .i64 s] w fun e w' =>
    e = .returned (.bool (setBarB m s)) ∧ Below w.heap.size w w' := by
  have hM := hm
  obtain ⟨⟨ad, cd, ak, ck, rfl, hd, hk'⟩, nd, nk⟩ := hM
  have OK := Lib.hid ok; clear ok
  obtain ⟨t, ht⟩ : ∃ t, t = 63 - s := ⟨_, rfl⟩
  have hst : (63 : Int) - (s : Int) = (t : Int) := by omega
  have HT : Hid (setBarB m s = !setWinB m t) := by show _ = _; rw [ht]; rfl
  have ht64 : t < 64 := by omega
  clear ht
  go_enter Try.func79, Try.ntmps79
  go_wp2_with fail
  refine (setWins_c _ m t _ (hm.later (by (repeat (first | exact Below.refl _ _ | apply Below.drew | apply below_drewN | (refine Below.setCell ?_ (by first | omega | (simp; done) | (simp; omega) | (dsimp only; omega)) _) | (refine Below.alloc ?_ (by first | omega | (simp; done) | (simp; omega) | (dsimp only; omega)) _))))) OK.out ht64).mono ?_
  rintro e w1 ⟨rfl, hb1⟩
  go_wp2_with fail
  go_ret
  exact ⟨ret_bool (by rw [HT.out]), below_then (by (repeat (first | exact Below.refl _ _ | apply Below.drew | apply below_drewN | (refine Below.setCell ?_ (by first | omega | (simp; done) | (simp; omega) | (dsimp only; omega)) _) | (refine Below.alloc ?_ (by first | omega | (simp; done) | (simp; omega) | (dsimp only; omega)) _)))) hb1⟩
set_option maxHeartbeats 1000000 in
theorem specSetWins_c (v : Value) (m : Mz) (x : Int) (w : World) (hm : MzAt w v m) (wx : wfI x) : Calls Try.prog 31 #[v, .int .i64 x] w fun e w' =>
    e = .returned (.tuple #[.bool (pSetWins m x).1, .bool (pSetWins m x).2]) ∧ Below w.heap.size w w' := by
  have hM := hm
  obtain ⟨⟨ad, cd, ak, ck, rfl, hd, hk'⟩, nd, nk⟩ := hM
  cases b1 : mazeB m
  · have HD : Hid (pSetWins m x = (false, false)) := by show _ = _; simp [pSetWins, askB, b1]
    go_enter Try.func31, Try.ntmps31
    go_wp2_with fail
    refine (l2Maze_c _ m _ (hm.later (by (repeat (first | exact Below.refl _ _ | apply Below.drew | apply below_drewN | (refine Below.setCell ?_ (by first | omega | (simp; done) | (simp; omega) | (dsimp only; omega)) _) | (refine Below.alloc ?_ (by first | omega | (simp; done) | (simp; omega) | (dsimp only; omega)) _)))))).mono ?_
    rintro e w1 ⟨rfl, hb1⟩
    rw [b1]
    go_wp2_with fail
    go_ret2
    exact ⟨ret_tup2 (by rw [HD.out] <;> rfl), below_then (by (repeat (first | exact Below.refl _ _ | apply Below.drew | apply below_drewN | (refine Below.setCell ?_ (by first | omega | (simp; done) | (simp; omega) | (dsimp only; omega)) _) | (refine Below.alloc ?_ (by first | omega | (simp; done) | (simp; omega) | (dsimp only; omega)) _)))) hb1⟩
  cases b2 : setB x
  · have HD : Hid (pSetWins m x = (false, false)) := by show _ = _; simp [pSetWins, askB, b2]
    go_enter Try.func31, Try.ntmps31
    go_wp2_with fail
    refine (l2Maze_c _ m _ (hm.later (by (repeat (first | exact Below.refl _ _ | apply Below.drew | apply below_drewN | (refine Below.setCell ?_ (by first | omega | (simp; done) | (simp; omega) | (dsimp only; omega)) _) | (refine Below.alloc ?_ (by first | omega | (simp; done) | (simp; omega) | (dsimp only; omega)) _)))))).mono ?_
    rintro e w1 ⟨rfl, hb1⟩
    rw [b1]
    go_wp2_with (go_at_call 74; refine (l2Set_c _ _).mono ?_; rintro e w2 ⟨rfl, rfl⟩; rw [b2])
    go_ret2
    exact ⟨ret_tup2 (by rw [HD.out] <;> rfl), below_then (by (repeat (first | exact Below.refl _ _ | apply Below.drew | apply below_drewN | (refine Below.setCell ?_ (by first | omega | (simp; done) | (simp; omega) | (dsimp only; omega)) _) | (refine Below.alloc ?_ (by first | omega | (simp; done) | (simp; omega) | (dsimp only; omega)) _)))) hb1⟩
  · obtain ⟨ok, sn, rfl, hsn⟩ := ask_parts (m := m) (s := x) (by simp [askB, b1, b2])
    have HD : Hid (pSetWins m sn = (setWinB m sn, true)) := by show _ = _; simp [pSetWins, askB, b1, b2]
    have OK := Lib.hid ok; clear ok
    have hsI : (sn : Int) < 64 := by omega
    go_enter Try.func31, Try.ntmps31
    go_wp2_with fail
    refine (l2Maze_c _ m _ (hm.later (by (repeat (first | exact Below.refl _ _ | apply Below.drew | apply below_drewN | (refine Below.setCell ?_ (by first | omega | (simp; done) | (simp; omega) | (dsimp only; omega)) _) | (refine Below.alloc ?_ (by first | omega | (simp; done) | (simp; omega) | (dsimp only; omega)) _)))))).mono ?_
    rintro e w1 ⟨rfl, hb1⟩
    have HB1 : Hid (Below w.heap.size w w1) := below_then (by (repeat (first | exact Below.refl _ _ | apply Below.drew | apply below_drewN | (refine Below.setCell ?_ (by first | omega | (simp; done) | (simp; omega) | (dsimp only; omega)) _) | (refine Below.alloc ?_ (by first | omega | (simp; done) | (simp; omega) | (dsimp only; omega)) _)))) hb1
    obtain ⟨q0, q1, q2, z1⟩ := box3 hb1 (by simp)
    clear hb1
    rw [b1]
    go_wp2_with (go_at_call 74; refine (l2Set_c _ _).mono ?_; rintro e w2 ⟨rfl, rfl⟩; rw [b2])
    refine (l6Wins_c _ m _ (hm.later HB1.out) OK.out).mono ?_
    rintro e w3 ⟨u, rfl, ho, hb3⟩
    obtain ⟨g, cap, rfl, -, -⟩ := ho.form (by omega)
    have c0 : w3.cell? ⟨g, sn, none⟩ = some (.bool (setWinB m sn)) := by rw [own_bool ho sn hsn (by simp), winsK_at hsn]
    clear ho
    go_wp2_with fail
    go_ret2
    exact ⟨ret_tup2 (by rw [HD.out] <;> rfl), below_then HB1.out hb3⟩
theorem implSetWins_c (v : Value) (m : Mz) (x : Int) (w : World) (hm : MzAt w v m) (wx : wfI x) : Calls Try.prog 32 #[v, .int .i64 x] w fun e w' =>
    e = .returned (.tuple #[.bool (pSetWins m x).1, .bool (pSetWins m x).2]) ∧ Below w.heap.size w w' := by
  have hM := hm
  obtain ⟨⟨ad, cd, ak, ck, rfl, hd, hk'⟩, nd, nk⟩ := hM
  cases b1 : askB m x
  · have HD : Hid (pSetWins m x = (false, false)) := by show _ = _; simp [pSetWins, b1]
    go_enter Try.func32, Try.ntmps32
    go_wp2_with fail
    refine (asked_c _ m _ _ (hm.later (by (repeat (first | exact Below.refl _ _ | apply Below.drew | apply below_drewN | (refine Below.setCell ?_ (by first | omega | (simp; done) | (simp; omega) | (dsimp only; omega)) _) | (refine Below.alloc ?_ (by first | omega | (simp; done) | (simp; omega) | (dsimp only; omega)) _)))))).mono ?_
    rintro e w1 ⟨rfl, hb1⟩
    rw [b1]
    go_wp2_with fail
    go_ret2
    exact ⟨ret_tup2 (by rw [HD.out] <;> rfl), below_then (by (repeat (first | exact Below.refl _ _ | apply Below.drew | apply below_drewN | (refine Below.setCell ?_ (by first | omega | (simp; done) | (simp; omega) | (dsimp only; omega)) _) | (refine Below.alloc ?_ (by first | omega | (simp; done) | (simp; omega) | (dsimp only; omega)) _)))) hb1⟩
  · obtain ⟨ok, sn, rfl, hsn⟩ := ask_parts b1
    have HD : Hid (pSetWins m sn = (setWinB m sn, true)) := by show _ = _; simp [pSetWins, b1]
    have OK := Lib.hid ok; clear ok
    go_enter Try.func32, Try.ntmps32
    go_wp2_with fail
    refine (asked_c _ m _ _ (hm.later (by (repeat (first | exact Below.refl _ _ | apply Below.drew | apply below_drewN | (refine Below.setCell ?_ (by first | omega | (simp; done) | (simp; omega) | (dsimp only; omega)) _) | (refine Below.alloc ?_ (by first | omega | (simp; done) | (simp; omega) | (dsimp only; omega)) _)))))).mono ?_
    rintro e w1 ⟨rfl, hb1⟩
    have HB1 : Hid (Below w.heap.size w w1) := below_then (by (repeat (first | exact Below.refl _ _ | apply Below.drew | apply below_drewN | (refine Below.setCell ?_ (by first | omega | (simp; done) | (simp; omega) | (dsimp only; omega)) _) | (refine Below.alloc ?_ (by first | omega | (simp; done) | (simp; omega) | (dsimp only; omega)) _)))) hb1
    obtain ⟨q0, q1, q2, z1⟩ := box3 hb1 (by simp)
    clear hb1
    rw [b1]
    go_wp2_with fail
    refine (setWins_c _ m sn _ (hm.later HB1.out) OK.out hsn).mono ?_
    rintro e w2 ⟨rfl, hb2⟩
    go_wp2_with fail
    go_ret2
    exact ⟨ret_tup2 (by rw [HD.out] <;> rfl), below_then HB1.out hb2⟩
end Go.Proofs.Ytbjcabphiddjgaa
