/- Contracts of the reference's l2Has, l2Joins, l2Open, l5Next, l5Largest. -/
import Derived.Test.YtmilpahggceemaaKdSteps
set_option linter.unusedVariables false
set_option linter.unusedSimpArgs false
namespace Go.KD
open Go.RowKit
theorem hid_step {p : Nat → Prop} {k : Nat} (h : Hid (∀ j, j < k → p j)) (hk : p k) : Hid (∀ j, j < k + 1 → p j) := by
  intro j hj
  rcases Nat.lt_or_ge j k with h' | h'
  · exact h.out j h'
  · obtain rfl : j = k := by omega
    exact hk
theorem own_below {w w' : World} {lo size n : Nat} {e : TypeId} {v : Value} {xs : List Value} (h : w.ownsRow lo e size v n xs) (hb : Below w.heap.size w w') : w'.ownsRow lo e size v n xs := ((Own.of h).later hb (Nat.le_refl _)).row
def joinsB (x y : Int) (d : D3) : Bool := (d.1 == x && d.2.1 == y) || (d.1 == y && d.2.1 == x)
theorem opnD_eq (x y : Int) (s : Nat) (d : D3) : opnD x y s d = (joinsB x y d && subB d.2.2.toNat s) := rfl
theorem opn_none {m : Mz} {x y : Int} {s : Nat} (h : ∀ k, k < m.doors.length → opnD x y s m.doors[k]! = false) : opnB m x y s = false := by
  rw [Bool.eq_false_iff, ne_eq, opnB_iff]
  rintro ⟨k, hk, h'⟩
  rw [h k hk] at h'; cases h'
theorem memK_end0 {x : Nat} {s : Nat} (hs : s ≤ 40) (h : InM ⟨s, [], []⟩ x) : memK x s = mem x := memK_all hs fun i hi => by have : (i : Int) < s := h i hi; omega
theorem keysL_yes {m : Mz} {n k : Nat} (h : n.testBit k = true) : keysL m (memK n (k + 1)) = keysL m (memK n k) ||| m.keys[k]!.toNat := by rw [memK_yes h, keysL_snoc]; simp
theorem keysL_no {m : Mz} {n k : Nat} (h : n.testBit k = false) : keysL m (memK n (k + 1)) = keysL m (memK n k) := by rw [memK_no h]
theorem nexN_no {m : Mz} (ok : MzOk m) {n y : Nat} (hn : n < 4096) (h : n.testBit y = true) : (nexN m n).testBit y = false := by
  rw [Bool.eq_false_iff, ne_eq, nexN_bit ok hn]
  rintro ⟨h', _⟩
  rw [h] at h'; cases h'
end Go.KD
namespace Go.Proofs.Ytmilpahggceemaa
open Go.RowKit Go.KD
attribute [local go_sem] later_cell later_frozen
theorem l2Has_c (s o : Nat) (hs : s < 4096) (ho : o < 4096) (w : World) : Calls Try.prog 134 #[.int .i64 s, .int .i64 o] w fun e w' => e = .returned (.bool (subB o s)) ∧ w = w' := by
  have ha : bits .and .i64 (s : Int) (o : Int) = ((s &&& o : Nat) : Int) := i64_and s o (by omega) (by omega)
  obtain ⟨y, hy⟩ : ∃ y, y = s &&& o := ⟨_, rfl⟩
  rw [← hy] at ha
  have HY := Lib.hid hy; clear hy
  go_enter Try.func134, Try.ntmps134
  go_wp2
  go_ret
  exact ⟨ret_bool (by rw [← subB_and, ← HY.out, Bool.eq_iff_iff]; simp; omega), rfl⟩
set_option maxHeartbeats 1000000 in
theorem l2Joins_c (a b c x y : Int) (w : World) : Calls Try.prog 320 #[.agg #[.int .i64 a, .int .i64 b, .int .i64 c], .int .i64 x, .int .i64 y] w fun e w' => e = .returned (.bool (joinsB x y (a, b, c))) ∧ Below w.heap.size w w' := by
  cases p1 : (a == x) <;> cases p2 : (b == y) <;> cases p3 : (a == y) <;> cases p4 : (b == x)
  all_goals
    have HR : Hid (joinsB x y (a, b, c) = ((a == x && b == y) || (a == y && b == x))) := rfl
    rw [p1, p2, p3, p4] at HR
    go_enter Try.func320, Try.ntmps320
    go_wp2
    go_ret
    exact ⟨ret_bool (by rw [HR.out]; rfl), (Below.refl _ _).alloc (Nat.le_refl _) _⟩
set_option maxHeartbeats 2000000 in
theorem l2Open_c (v : Value) (m : Mz) (x y : Int) (l : Nat) (w : World) (hm : MzAt w v m) (ok : MzOk m) (hl : l < 64) :
    Calls Try.prog 296 #[v, .int .i64 x, .int .i64 y, .int .i64 l] w fun e w' => e = .returned (.bool (opnB m x y l)) ∧ Below w.heap.size w w' := by
  have hM := hm
  obtain ⟨⟨ad, cd, ak, ck, rfl, hd, hk'⟩, nd, nk⟩ := hM
  have hng := ok.nd
  have OK := Lib.hid ok; clear ok
  go_enter Try.func296, Try.ntmps296
  go_wp2
  go_loopw [9] (fun i wr => ∃ k : Nat, k ≤ m.doors.length ∧ i = .int .i64 k ∧ Below (w.heap.size + 1) (w.alloc (.cells #[.int .i64 m.size, .slice ad m.doors.length cd, .slice ak m.keys.length ck] 75)) wr ∧ Hid (∀ j, j < k → opnD x y l m.doors[j]! = false)) (fun i _ => m.doors.length - (intOf i).toNat)
  case atStart => exact ⟨0, Nat.zero_le _, rfl, Below.refl _ _, fun j hj => absurd hj (Nat.not_lt_zero j)⟩
  case round =>
    obtain ⟨wo, rfl⟩ : ∃ wo : World, wo = wr := ⟨_, rfl⟩
    obtain ⟨k, hkl, rfl, hb, HJ⟩ := hrel
    have HBo := Lib.hid hb
    have HB : Hid (Below w.heap.size w wo) := below_box hb (by omega)
    obtain ⟨q0, q1, q2, z1⟩ := box3 hb (by omega)
    by_cases hlt : k < m.doors.length
    · obtain ⟨b, off, x0, y0, z0, rfl, HX, hbs, e0, e1, e2⟩ := (hd.later HB.out).at k hlt
      obtain ⟨f1, f2, f3, f4, f5⟩ := door_facts OK.out hlt HX.out
      obtain ⟨zn, rfl⟩ := Int.eq_ofNat_of_zero_le f4
      have HD : Hid (opnD x y l m.doors[k]! = (joinsB x y (x0, y0, (zn : Int)) && subB zn l)) := by show _ = _; rw [HX.out, opnD_eq]; rfl
      have hk0 : (k : Int) < (m.doors.length : Int) := by omega
      clear hb
      cases p1 : joinsB x y (x0, y0, (zn : Int))
      · go_wp2_with (go_at_call 320; refine (l2Joins_c _ _ _ _ _ _).mono ?_; rintro e w2 ⟨rfl, hb2⟩; rw [p1])
        go_roundw
        case rel => exact ⟨k + 1, by omega, by go_num, (HBo.out.trans (hb2.mono (by omega))), hid_step HJ (by rw [HD.out, p1]; rfl)⟩
        case measure => simp [intOf]; omega
      · cases p2 : subB zn l
        · go_wp2_with (first | (go_at_call 320; refine (l2Joins_c _ _ _ _ _ _).mono ?_; rintro e w2 ⟨rfl, hb2⟩; rw [p1]; have HB2 : Hid (Below (w.heap.size + 1) (w.alloc (.cells #[.int .i64 m.size, .slice (some ⟨b, off, none⟩) m.doors.length cd, .slice ak m.keys.length ck] 75)) w2) := HBo.out.trans (hb2.mono (by omega)); clear q0 q1 q2; obtain ⟨q0, q1, q2, z2⟩ := box3 HB2.out (by omega); replace e2 := (hb2.cell (p := ⟨_, _, none⟩) hbs).trans e2) | (go_at_call 134; refine (l2Has_c _ _ (by omega) (by omega) _).mono ?_; rintro e w3 ⟨rfl, rfl⟩; rw [p2]))
          go_roundw
          case rel => exact ⟨k + 1, by omega, by go_num, HB2.out, hid_step HJ (by rw [HD.out, p1, p2]; rfl)⟩
          case measure => simp [intOf]; omega
        · go_wp2_with (first | (go_at_call 320; refine (l2Joins_c _ _ _ _ _ _).mono ?_; rintro e w2 ⟨rfl, hb2⟩; rw [p1]; have HB2 : Hid (Below (w.heap.size + 1) (w.alloc (.cells #[.int .i64 m.size, .slice (some ⟨b, off, none⟩) m.doors.length cd, .slice ak m.keys.length ck] 75)) w2) := HBo.out.trans (hb2.mono (by omega)); clear q0 q1 q2; obtain ⟨q0, q1, q2, z2⟩ := box3 HB2.out (by omega); replace e2 := (hb2.cell (p := ⟨_, _, none⟩) hbs).trans e2) | (go_at_call 134; refine (l2Has_c _ _ (by omega) (by omega) _).mono ?_; rintro e w3 ⟨rfl, rfl⟩; rw [p2]))
          go_ret
          exact ⟨ret_bool (opnB_iff.2 ⟨k, hlt, by rw [HD.out, p1, p2]; rfl⟩).symm, below_box HB2.out (by omega)⟩
    · obtain rfl : k = m.doors.length := by omega
      go_wp2
      go_ret
      exact ⟨ret_bool (opn_none HJ.out).symm, HB.out⟩
end Go.Proofs.Ytmilpahggceemaa
