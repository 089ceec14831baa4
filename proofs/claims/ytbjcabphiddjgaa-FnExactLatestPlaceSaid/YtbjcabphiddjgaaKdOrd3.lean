/- Contracts of l5Order, isEntryOrder, NextNodes. -/
import Derived.Test.YtbjcabphiddjgaaKdOrd
import Derived.Deep.RegionHeld3
set_option linter.unusedVariables false
set_option linter.unusedSimpArgs false
namespace Go.KD
open Go.RowKit
noncomputable def pNextNodes (m : Mz) (l : List Int) : List Int × Bool := if mazeB m && (ordP m l).2 then (mem (nexN m (ordP m l).1), true) else ([], false)
theorem mem_len40 (x : Nat) : (mem x).length ≤ 40 := by rw [mem_eq]; exact memK_len _ _
theorem pNextNodes_len (m : Mz) (l : List Int) : (pNextNodes m l).1.length ≤ 1000000 := by
  unfold pNextNodes
  split
  · have := mem_len40 (nexN m (ordP m l).1); simp only; omega
  · simp
theorem ordK_in {m : Mz} (ok : MzOk m) {l : List Int} : ∀ k n, ordK m l k = some n → InM m n
  | 0, n, h => by
    simp only [ordK, Option.some.injEq] at h
    subst h
    intro i hi; simp at hi
  | k + 1, n, h => by
    unfold ordK at h
    split at h
    · cases h
    · rename_i n0 h0
      have ih := ordK_in ok k n0 h0
      split at h
      · rename_i hb
        simp only [Option.some.injEq] at h
        simp only [ordOk, Bool.and_eq_true, inB_true] at hb
        intro i hi
        rw [← h, setN_bit, Bool.or_eq_true] at hi
        rcases hi with hi | hi
        · exact ih i hi
        · have : l[k]!.toNat = i := by simpa using hi
          omega
      · cases h
theorem ord_has {m : Mz} (ok : MzOk m) {l : List Int} {k n : Nat} (hn : n < 4096) (hk : k ≠ 0) : hasI (mem (nexN m n)) l[k]! = ordOk m l k n := by
  have hx := nexN_lt ok n
  rw [Bool.eq_iff_iff, hasI_iff, hasI_mem (by omega)]
  simp only [ordOk, if_neg hk, Bool.and_eq_true, inB_true]
  constructor
  · rintro ⟨h1, h2⟩
    have := nexN_size ok hn h2
    exact ⟨⟨h1, by omega⟩, h2⟩
  · rintro ⟨h1, h2⟩; exact ⟨h1.1, h2⟩
theorem ordK_step {m : Mz} {l : List Int} {k n : Nat} (h : ordK m l k = some n) (hb : ordOk m l k n = true) : ordK m l (k + 1) = some (setN n l[k]!) := by
  show (match ordK m l k with | none => none | some n => if ordOk m l k n then some (setN n l[k]!) else none) = _
  rw [h]; simp [hb]
end Go.KD
namespace Go.Proofs.Ytbjcabphiddjgaa
open Go.RowKit Go.KD
attribute [local go_sem] later_cell later_frozen
set_option maxRecDepth 100000 in
set_option maxHeartbeats 4000000 in
theorem l5Order_c (v : Value) (m : Mz) (a : Option Addr) (cap : Nat) (l : List Int) (w : World) (hm : MzAt w v m) (ok : MzOk m) (hA : IC w a l) (hl : l.length ≤ 1048576) :
    Calls Try.prog 58 #[v, .slice a l.length cap] w fun e w' => e = .returned (.tuple #[.int .i64 (ordP m l).1, .bool (ordP m l).2]) ∧ Below w.heap.size w w' := by
  have hM := hm
  obtain ⟨⟨ad, cd, ak, ck, rfl, hd, hk'⟩, nd, nk⟩ := hM
  have HLT := Lib.hid (ordK_lt ok (l := l))
  have HIN := Lib.hid (ordK_in ok (l := l))
  have HOH : Hid (∀ k n, n < 4096 → k ≠ 0 → hasI (mem (nexN m n)) l[k]! = ordOk m l k n) := fun k n h1 h2 => ord_has ok h1 h2
  have HSZ : Hid (1 ≤ m.size ∧ m.size ≤ 12) := ⟨ok.s1, ok.s2⟩
  have OK := Lib.hid ok; clear ok
  rcases Nat.eq_zero_or_pos l.length with h0 | h0
  · have HD : Hid (ordP m l = (0, false)) := by show _ = _; unfold ordP; rw [if_pos h0]
    rw [h0]
    clear h0
    go_enter Try.func58, Try.ntmps58
    go_wp2
    go_ret2
    exact ⟨ret_tup2 (by rw [HD.out] <;> rfl), by (repeat (first | exact Below.refl _ _ | apply Below.drew | apply below_drewN | (refine Below.setCell ?_ (by first | omega | (simp; done) | (simp; omega) | (dsimp only; omega)) _) | (refine Below.alloc ?_ (by first | omega | (simp; done) | (simp; omega) | (dsimp only; omega)) _)))⟩
  · obtain ⟨b, off, x, rfl, HX, hbs, e0⟩ := hA.at 0 h0
    rw [Nat.add_zero] at e0
    have h00 : ((l.length : Int) == 0) = false := by rw [beq_eq_false_iff_ne]; omega
    have h0' : ¬ (l.length = 0) := by omega
    have hll : (0 : Int) < (l.length : Int) := by omega
    cases p0 : (x == 0)
    · have px : (x != 0) = true := by simpa using p0
      have HD : Hid (ordP m l = (0, false)) := by
        refine ordP_bad (k := 0) (n := 0) h0 rfl ?_
        simp only [ordOk, if_true, HX.out, p0, Bool.and_false]
      clear p0 h0
      go_enter Try.func58, Try.ntmps58
      go_wp2
      go_ret2
      exact ⟨ret_tup2 (by rw [HD.out] <;> rfl), by (repeat (first | exact Below.refl _ _ | apply Below.drew | apply below_drewN | (refine Below.setCell ?_ (by first | omega | (simp; done) | (simp; omega) | (dsimp only; omega)) _) | (refine Below.alloc ?_ (by first | omega | (simp; done) | (simp; omega) | (dsimp only; omega)) _)))⟩
    · have hx0 : x = 0 := by simpa using p0
      subst hx0
      have H1 : Hid (ordK m l 1 = some 1) := by
        show _ = _
        rw [ordK_step (k := 0) (n := 0) rfl (by simp only [ordOk, if_true, HX.out]; simp [inB]; have := HSZ.out; omega), HX.out]
        rfl
      clear p0
      go_enter Try.func58, Try.ntmps58
      go_wp2
      go_loopw [6, 7] (fun c i wr => ∃ k n : Nat, 1 ≤ k ∧ k ≤ l.length ∧ i = .int .i64 k ∧ c = .int .i64 n ∧ Hid (ordK m l k = some n) ∧ Below (w.heap.size + 1) (w.alloc (.cells #[.int .i64 m.size, .slice ad m.doors.length cd, .slice ak m.keys.length ck] 29)) wr) (fun _ i _ => l.length - (intOf i).toNat)
      case atStart => exact ⟨1, 1, by omega, by omega, rfl, rfl, H1, Below.refl _ _⟩
      case round =>
        obtain ⟨wo, rfl⟩ : ∃ wo : World, wo = wr := ⟨_, rfl⟩
        obtain ⟨k, n, hk1, hkl, rfl, rfl, HK, hb⟩ := hrel
        have HB : Hid (Below w.heap.size w wo) := below_box hb (by omega)
        have HBo := Lib.hid hb
        obtain ⟨q0, q1, q2, z1⟩ := box3 hb (by omega)
        have hn := HLT.out k n HK.out
        have hin := HIN.out k n HK.out
        clear hb
        by_cases hlt : k < l.length
        · obtain ⟨b', off', y, hb', HY, hbs2, q3⟩ := (hA.later HB.out).at k hlt
          cases hb'
          have HOK : Hid (hasI (mem (nexN m n)) y = ordOk m l k n) := by show _ = _; rw [← HY.out]; exact HOH.out k n hn (by omega)
          have h41 := mem_len40 (nexN m n)
          have hkk : (k : Int) < (l.length : Int) := by omega
          cases p1 : ordOk m l k n
          · have HD := Lib.hid (ordP_bad hlt HK.out p1)
            rw [p1] at HOK
            go_wp2
            go_region_held3 (fun W => W.cell? ⟨w.heap.size, 0, none⟩ = some (.int .i64 m.size) ∧ W.cell? ⟨w.heap.size, 1, none⟩ = some (.slice ad m.doors.length cd) ∧ W.cell? ⟨w.heap.size, 2, none⟩ = some (.slice ak m.keys.length ck) ∧ W.cell? ⟨b, off + k, none⟩ = some (.int .i64 y))
              (first | exact ⟨q0, q1, q2, q3⟩ | exact ⟨r0, r1, r2, r3⟩)
              (first | (go_at_call 59; refine (l5Next_c _ m n _ (hm.later HB.out.drew) OK.out hin).mono ?_; rintro e w2 ⟨u, rfl, hou, hb2⟩; obtain ⟨au, cu, rfl, -, hi⟩ := (Own.of hou).ic; have HI := Lib.hid hi; clear hi hou; have r0 : w2.cell? ⟨w.heap.size, 0, none⟩ = some (.int .i64 m.size) := (hb2.cell (p := ⟨w.heap.size, 0, none⟩) (show w.heap.size < wo.heap.size by assumption)).trans q0; have r1 : w2.cell? ⟨w.heap.size, 1, none⟩ = some (.slice ad m.doors.length cd) := (hb2.cell (p := ⟨w.heap.size, 1, none⟩) (show w.heap.size < wo.heap.size by assumption)).trans q1; have r2 : w2.cell? ⟨w.heap.size, 2, none⟩ = some (.slice ak m.keys.length ck) := (hb2.cell (p := ⟨w.heap.size, 2, none⟩) (show w.heap.size < wo.heap.size by assumption)).trans q2; have r3 : w2.cell? ⟨b, off + k, none⟩ = some (.int .i64 y) := (hb2.cell (p := ⟨b, off + k, none⟩) (show b < wo.heap.size by assumption)).trans q3) | (go_at_call 64; refine (l1Has_c _ _ _ (mem (nexN m n)) _ _ rfl HI.out (by omega)).mono ?_; rintro e w3 ⟨rfl, rfl⟩; rw [HOK.out]))
            go_wp2
            go_ret2
            exact ⟨ret_tup2 (by rw [HD.out] <;> rfl), below_then HB.out.drew hb2⟩
          · have HST := Lib.hid (ordK_step HK.out p1)
            have hy : 0 ≤ y ∧ y < m.size := by simp only [ordOk, Bool.and_eq_true, inB_true, HY.out] at p1; omega
            obtain ⟨yn, rfl⟩ := Int.eq_ofNat_of_zero_le hy.1
            have hy12 : yn < 12 := by have := HSZ.out; omega
            obtain ⟨p, HP, ep, hp⟩ := shl_at yn hy12
            have eo : bits .or .i64 (n : Int) (p : Int) = ((n ||| p : Nat) : Int) := i64_or n p (by omega) (by omega)
            have hy2 : (yn : Int) < 12 := by omega
            rw [p1] at HOK
            rw [HY.out] at HST
            clear p1
            go_wp2
            go_region_held3 (fun W => W.cell? ⟨w.heap.size, 0, none⟩ = some (.int .i64 m.size) ∧ W.cell? ⟨w.heap.size, 1, none⟩ = some (.slice ad m.doors.length cd) ∧ W.cell? ⟨w.heap.size, 2, none⟩ = some (.slice ak m.keys.length ck) ∧ W.cell? ⟨b, off + k, none⟩ = some (.int .i64 yn))
              (first | exact ⟨q0, q1, q2, q3⟩ | exact ⟨r0, r1, r2, r3⟩)
              (first | (go_at_call 59; refine (l5Next_c _ m n _ (hm.later HB.out.drew) OK.out hin).mono ?_; rintro e w2 ⟨u, rfl, hou, hb2⟩; obtain ⟨au, cu, rfl, -, hi⟩ := (Own.of hou).ic; have HI := Lib.hid hi; clear hi hou; have r0 : w2.cell? ⟨w.heap.size, 0, none⟩ = some (.int .i64 m.size) := (hb2.cell (p := ⟨w.heap.size, 0, none⟩) (show w.heap.size < wo.heap.size by assumption)).trans q0; have r1 : w2.cell? ⟨w.heap.size, 1, none⟩ = some (.slice ad m.doors.length cd) := (hb2.cell (p := ⟨w.heap.size, 1, none⟩) (show w.heap.size < wo.heap.size by assumption)).trans q1; have r2 : w2.cell? ⟨w.heap.size, 2, none⟩ = some (.slice ak m.keys.length ck) := (hb2.cell (p := ⟨w.heap.size, 2, none⟩) (show w.heap.size < wo.heap.size by assumption)).trans q2; have r3 : w2.cell? ⟨b, off + k, none⟩ = some (.int .i64 yn) := (hb2.cell (p := ⟨b, off + k, none⟩) (show b < wo.heap.size by assumption)).trans q3) | (go_at_call 64; refine (l1Has_c _ _ _ (mem (nexN m n)) _ _ rfl HI.out (by omega)).mono ?_; rintro e w3 ⟨rfl, rfl⟩; rw [HOK.out]))
            have HB2 : Hid (Below (w.heap.size + 1) (w.alloc (.cells #[.int .i64 m.size, .slice ad m.doors.length cd, .slice ak m.keys.length ck] 29)) w2) := HBo.out.drew.trans (hb2.mono (show w.heap.size + 1 ≤ wo.heap.size by omega))
            clear hb2
            go_wp2
            go_roundw
            case rel => exact ⟨k + 1, n ||| p, by omega, by omega, by go_num, rfl, by show _ = _; rw [HST.out, setN, HP.out]; rfl, HB2.out⟩
            case measure => simp [intOf]; omega
        · obtain rfl : k = l.length := by omega
          have HD := Lib.hid (ordP_good (by omega) HK.out)
          go_wp2
          go_ret2
          exact ⟨ret_tup2 (by rw [HD.out] <;> rfl), HB.out⟩
set_option maxRecDepth 100000 in
set_option maxHeartbeats 4000000 in
theorem isEntryOrder_c (v : Value) (m : Mz) (a : Option Addr) (cap : Nat) (l : List Int) (w : World) (hm : MzAt w v m) (ok : MzOk m) (hA : IC w a l) (hl : l.length ≤ 1048576) :
    Calls Try.prog 60 #[v, .slice a l.length cap] w fun e w' => e = .returned (.tuple #[.int .i64 (ordP m l).1, .bool (ordP m l).2]) ∧ Below w.heap.size w w' := by
  have hM := hm
  obtain ⟨⟨ad, cd, ak, ck, rfl, hd, hk'⟩, nd, nk⟩ := hM
  have HLT := Lib.hid (ordK_lt ok (l := l))
  have HIN := Lib.hid (ordK_in ok (l := l))
  have HNL := Lib.hid (nexN_lt ok)
  have hsz1 : 1 ≤ m.size := ok.s1
  have hsz2 : m.size ≤ 12 := ok.s2
  have OK := Lib.hid ok; clear ok
  go_enter Try.func60, Try.ntmps60
  go_wp2
  go_loopw [6, 11] (fun c i wr => ∃ k n : Nat, k ≤ l.length ∧ i = .int .i64 k ∧ c = .int .i64 n ∧ Hid (ordK m l k = some n) ∧ Below (w.heap.size + 1) (w.alloc (.cells #[.int .i64 m.size, .slice ad m.doors.length cd, .slice ak m.keys.length ck] 29)) wr) (fun _ i _ => l.length - (intOf i).toNat)
  case atStart => exact ⟨0, 0, by omega, rfl, rfl, rfl, Below.refl _ _⟩
  case round =>
    obtain ⟨wo, rfl⟩ : ∃ wo : World, wo = wr := ⟨_, rfl⟩
    obtain ⟨k, n, hkl, rfl, rfl, HK, hb⟩ := hrel
    have HB : Hid (Below w.heap.size w wo) := below_box hb (by omega)
    have HBo := Lib.hid hb
    obtain ⟨q0, q1, q2, z1⟩ := box3 hb (by omega)
    have hn := HLT.out k n HK.out
    have hin := HIN.out k n HK.out
    clear hb
    by_cases hlt : k < l.length
    · obtain ⟨b, off, y, rfl, HY, hbs2, e3⟩ := (hA.later HB.out).at k hlt
      have hkk : (k : Int) < (l.length : Int) := by omega
      cases p1 : inB y 0 (m.size - 1)
      · have HD := Lib.hid (ordP_bad hlt HK.out (by simp only [ordOk, HY.out, p1, Bool.false_and]))
        go_wp2_with (go_at_call 93; refine (within_c _ _ _ _).mono ?_; rintro e w2 ⟨rfl, rfl⟩; rw [p1])
        go_ret2
        exact ⟨ret_tup2 (by rw [HD.out] <;> rfl), HB.out⟩
      · have hy := inB_true.1 p1
        obtain ⟨yn, rfl⟩ := Int.eq_ofNat_of_zero_le hy.1
        have hy12 : yn < 12 := by omega
        obtain ⟨p, HP, ep, hp⟩ := shl_at yn hy12
        have eo : bits .or .i64 (n : Int) (p : Int) = ((n ||| p : Nat) : Int) := i64_or n p (by omega) (by omega)
        have hy2 : (yn : Int) < 12 := by omega
        rcases Nat.eq_zero_or_pos k with hk0 | hk0
        · subst hk0
          rw [Nat.add_zero] at e3
          rcases Nat.eq_zero_or_pos yn with hy0 | hy0
          · subst hy0
            have HST := Lib.hid (ordK_step HK.out (by simp only [ordOk, if_true, HY.out, p1]; rfl))
            rw [HY.out] at HST
            clear eo ep
            have eo : bits .or .i64 (n : Int) 1 = ((n ||| 1 : Nat) : Int) := i64_or n 1 (by omega) (by omega)
            go_wp2_with (go_at_call 93; refine (within_c _ _ _ _).mono ?_; rintro e w2 ⟨rfl, rfl⟩; (try simp only [Int.natCast_zero] at p1 ⊢); (try rw [p1]))
            go_roundw
            case rel => exact ⟨0 + 1, n ||| 1, by omega, by go_num, by first | rfl | (congr 1), by show _ = _; rw [HST.out, setN]; rfl, HBo.out⟩
            case measure => simp [intOf]; omega
          · have hyne : ¬ (yn = 0) := by omega
            have HD := Lib.hid (ordP_bad hlt HK.out (by simp only [ordOk, if_true, HY.out]; simp [hyne]))
            go_wp2_with (go_at_call 93; refine (within_c _ _ _ _).mono ?_; rintro e w2 ⟨rfl, rfl⟩; rw [p1])
            go_ret2
            exact ⟨ret_tup2 (by rw [HD.out] <;> rfl), HB.out⟩
        · have hkne : ¬ (k = 0) := by omega
          have HNE := Lib.hid hkne
          have hnx := HNL.out n
          obtain ⟨X, hX⟩ : ∃ X, X = nexN m n := ⟨_, rfl⟩
          rw [← hX] at hnx
          have HX := Lib.hid hX; clear hX
          obtain ⟨y1, HY1, ey1⟩ := shr_at X yn
          have hy1 : y1 < 1099511627776 := by
            have := HY1.out; rw [Nat.shiftRight_eq_div_pow] at *; have := Nat.div_le_self X (2 ^ yn); omega
          have HA1 := Lib.hid (and1 hy1)
          have HB1 := Lib.hid (bit_shr X yn)
          clear hy1
          cases hbit : X.testBit yn
          · have ea : bits .and .i64 (y1 : Int) 1 = 0 := by rw [HA1.out, HY1.out, HB1.out, hbit]; rfl
            have HD := Lib.hid (ordP_bad hlt HK.out (by simp only [ordOk, if_neg HNE.out, HY.out]; simp [← HX.out, hbit]))
            clear hbit
            go_wp2_with (first | (go_at_call 93; refine (within_c _ _ _ _).mono ?_; rintro e w2 ⟨rfl, rfl⟩; rw [p1]) | (go_at_call 62; refine (nexts_c _ m n _ (hm.later HB.out) OK.out hin).mono ?_; rintro e w2 ⟨rfl, hb2⟩; rw [← HX.out]))
            go_ret2
            exact ⟨ret_tup2 (by rw [HD.out] <;> rfl), below_then HB.out hb2⟩
          · have ea : bits .and .i64 (y1 : Int) 1 = 1 := by rw [HA1.out, HY1.out, HB1.out, hbit]; rfl
            have HST := Lib.hid (ordK_step HK.out (by simp only [ordOk, if_neg HNE.out, HY.out, p1, Int.toNat_natCast, ← HX.out, hbit]; rfl))
            rw [HY.out] at HST
            clear hbit
            go_wp2_with (first | (go_at_call 93; refine (within_c _ _ _ _).mono ?_; rintro e w2 ⟨rfl, rfl⟩; rw [p1]) | (go_at_call 62; refine (nexts_c _ m n _ (hm.later HB.out) OK.out hin).mono ?_; rintro e w2 ⟨rfl, hb2⟩; rw [← HX.out]))
            go_roundw
            case rel => exact ⟨k + 1, n ||| p, by omega, by go_num, rfl, by show _ = _; rw [HST.out, setN, HP.out]; rfl, HBo.out.trans (hb2.mono (by omega))⟩
            case measure => simp [intOf]; omega
    · obtain rfl : k = l.length := by omega
      rcases Nat.eq_zero_or_pos l.length with h0 | h0
      · have hn0 : n = 0 := by
          have := HK.out
          rw [h0] at this
          simp only [ordK, Option.some.injEq] at this
          exact this.symm
        subst hn0
        have HD : Hid (ordP m l = (0, false)) := by show _ = _; unfold ordP; rw [if_pos h0]
        go_wp2
        go_ret2
        exact ⟨ret_tup2 (by rw [HD.out] <;> simp [h0]), HB.out⟩
      · have HD := Lib.hid (ordP_good (by omega) HK.out)
        have hll : (0 : Int) < (l.length : Int) := by omega
        go_wp2
        go_ret2
        exact ⟨ret_tup2 (by rw [HD.out] <;> simp [h0]), HB.out⟩
theorem specNextNodes_c (v : Value) (m : Mz) (a : Option Addr) (cap : Nat) (l : List Int) (w : World) (R : List Int) (b : Bool) (hp : pNextNodes m l = (R, b)) (hm : MzAt w v m) (hA : IC w a l) (hl : l.length ≤ 1048576) (wl : ∀ y ∈ l, wfI y) : Calls Try.prog 24 #[v, .slice a l.length cap] w fun e w' => ∃ aw cw, e = .returned (.tuple #[.slice aw R.length cw, .bool b]) ∧ IC w' aw R ∧ Below w.heap.size w w' := by
  have hM := hm
  obtain ⟨⟨ad, cd, ak, ck, rfl, hd, hk'⟩, nd, nk⟩ := hM
  cases b1 : mazeB m
  · simp only [pNextNodes, b1] at hp
    cases hp
    go_enter Try.func24, Try.ntmps24
    go_wp2_with fail
    refine (l2Maze_c _ m _ (hm.later (by (repeat (first | exact Below.refl _ _ | apply Below.drew | apply below_drewN | (refine Below.setCell ?_ (by first | omega | (simp; done) | (simp; omega) | (dsimp only; omega)) _) | (refine Below.alloc ?_ (by first | omega | (simp; done) | (simp; omega) | (dsimp only; omega)) _)))))).mono ?_
    rintro e w1 ⟨rfl, hb1⟩
    have HB1 : Hid (Below w.heap.size w w1) := below_then (by (repeat (first | exact Below.refl _ _ | apply Below.drew | apply below_drewN | (refine Below.setCell ?_ (by first | omega | (simp; done) | (simp; omega) | (dsimp only; omega)) _) | (refine Below.alloc ?_ (by first | omega | (simp; done) | (simp; omega) | (dsimp only; omega)) _)))) hb1
    rw [b1]
    go_wp2_with fail
    go_ret2
    exact ⟨_, _, rfl, fun k hk => absurd hk (Nat.not_lt_zero k), HB1.out.alloc HB1.out.size _⟩
  · have OK := Lib.hid (mazeB_true.1 b1)
    have HLT := Lib.hid (ordK_in OK.out (l := l))
    obtain ⟨n, g, hq⟩ : ∃ n g, ordP m l = (n, g) := ⟨_, _, rfl⟩
    have HQ := Lib.hid hq
    cases g
    · simp only [pNextNodes, b1, hq, Bool.and_false] at hp
      cases hp
      clear hq
      go_enter Try.func24, Try.ntmps24
      go_wp2_with fail
      refine (l2Maze_c _ m _ (hm.later (by (repeat (first | exact Below.refl _ _ | apply Below.drew | apply below_drewN | (refine Below.setCell ?_ (by first | omega | (simp; done) | (simp; omega) | (dsimp only; omega)) _) | (refine Below.alloc ?_ (by first | omega | (simp; done) | (simp; omega) | (dsimp only; omega)) _)))))).mono ?_
      rintro e w1 ⟨rfl, hb1⟩
      have HB1 : Hid (Below w.heap.size w w1) := below_then (by (repeat (first | exact Below.refl _ _ | apply Below.drew | apply below_drewN | (refine Below.setCell ?_ (by first | omega | (simp; done) | (simp; omega) | (dsimp only; omega)) _) | (refine Below.alloc ?_ (by first | omega | (simp; done) | (simp; omega) | (dsimp only; omega)) _)))) hb1
      obtain ⟨q0, q1, q2, z1⟩ := box3 hb1 (by simp)
      clear hb1
      rw [b1]
      go_wp2_with fail
      refine (l5Order_c _ m _ _ l _ (hm.later HB1.out) OK.out (hA.later HB1.out) hl).mono ?_
      rintro e w2 ⟨rfl, hb2⟩
      have HB2 := Lib.hid (below_then HB1.out hb2)
      rw [HQ.out]
      go_wp2_with fail
      go_ret2
      exact ⟨_, _, rfl, fun k hk => absurd hk (Nat.not_lt_zero k), HB2.out.alloc HB2.out.size _⟩
    · simp only [pNextNodes, b1, hq, Bool.and_self, if_true] at hp
      cases hp
      have hin : InM m n := by
        by_cases h0 : l.length = 0
        · unfold ordP at hq; rw [if_pos h0] at hq; cases hq
        · unfold ordP at hq; rw [if_neg h0] at hq
          split at hq
          · rename_i n0 h; cases hq; exact HLT.out _ _ h
          · cases hq
      clear hq
      go_enter Try.func24, Try.ntmps24
      go_wp2_with fail
      refine (l2Maze_c _ m _ (hm.later (by (repeat (first | exact Below.refl _ _ | apply Below.drew | apply below_drewN | (refine Below.setCell ?_ (by first | omega | (simp; done) | (simp; omega) | (dsimp only; omega)) _) | (refine Below.alloc ?_ (by first | omega | (simp; done) | (simp; omega) | (dsimp only; omega)) _)))))).mono ?_
      rintro e w1 ⟨rfl, hb1⟩
      have HB1 : Hid (Below w.heap.size w w1) := below_then (by (repeat (first | exact Below.refl _ _ | apply Below.drew | apply below_drewN | (refine Below.setCell ?_ (by first | omega | (simp; done) | (simp; omega) | (dsimp only; omega)) _) | (refine Below.alloc ?_ (by first | omega | (simp; done) | (simp; omega) | (dsimp only; omega)) _)))) hb1
      have HX1 := Lib.hid hb1
      obtain ⟨q0, q1, q2, z1⟩ := box3 hb1 (by simp)
      clear hb1
      rw [b1]
      go_wp2_with fail
      refine (l5Order_c _ m _ _ l _ (hm.later HB1.out) OK.out (hA.later HB1.out) hl).mono ?_
      rintro e w2 ⟨rfl, hb2⟩
      have HB2 := Lib.hid (below_then HB1.out hb2)
      clear q0 q1 q2
      obtain ⟨q0, q1, q2, z2⟩ := box3 (below_then HX1.out hb2) (by simp)
      clear hb2
      rw [HQ.out]
      go_wp2_with fail
      refine (l5Next_c _ m n _ (hm.later HB2.out) OK.out hin).mono ?_
      rintro e w3 ⟨u, rfl, ho, hb3⟩
      obtain ⟨a2, c2, rfl, -, hc2⟩ := (Own.of ho).ic
      have HI := Lib.hid hc2; clear hc2 ho
      go_wp2_with fail
      go_ret2
      exact ⟨_, _, rfl, HI.out, below_then HB2.out hb3⟩
theorem implNextNodes_c (v : Value) (m : Mz) (a : Option Addr) (cap : Nat) (l : List Int) (w : World) (R : List Int) (b : Bool) (hp : pNextNodes m l = (R, b)) (hm : MzAt w v m) (hA : IC w a l) (hl : l.length ≤ 1048576) (wl : ∀ y ∈ l, wfI y) : Calls Try.prog 26 #[v, .slice a l.length cap] w fun e w' => ∃ u, e = .returned (.tuple #[u, .bool b]) ∧ w'.ownsRow w.heap.size 3 1 u R.length (ints R) ∧ Below w.heap.size w w' := by
  have hM := hm
  obtain ⟨⟨ad, cd, ak, ck, rfl, hd, hk'⟩, nd, nk⟩ := hM
  cases b1 : mazeB m
  · simp only [pNextNodes, b1] at hp
    cases hp
    go_enter Try.func26, Try.ntmps26
    go_wp2_with fail
    refine (isMaze_c _ m _ (hm.later (by (repeat (first | exact Below.refl _ _ | apply Below.drew | apply below_drewN | (refine Below.setCell ?_ (by first | omega | (simp; done) | (simp; omega) | (dsimp only; omega)) _) | (refine Below.alloc ?_ (by first | omega | (simp; done) | (simp; omega) | (dsimp only; omega)) _)))))).mono ?_
    rintro e w1 ⟨rfl, hb1⟩
    have HB1 : Hid (Below w.heap.size w w1) := below_then (by (repeat (first | exact Below.refl _ _ | apply Below.drew | apply below_drewN | (refine Below.setCell ?_ (by first | omega | (simp; done) | (simp; omega) | (dsimp only; omega)) _) | (refine Below.alloc ?_ (by first | omega | (simp; done) | (simp; omega) | (dsimp only; omega)) _)))) hb1
    rw [b1]
    go_wp2_with fail
    go_ret2
    exact ⟨_, rfl, ⟨rfl, .inl ⟨rfl, rfl⟩⟩, HB1.out⟩
  · have OK := Lib.hid (mazeB_true.1 b1)
    have HLT := Lib.hid (ordK_in OK.out (l := l))
    obtain ⟨n, g, hq⟩ : ∃ n g, ordP m l = (n, g) := ⟨_, _, rfl⟩
    have HQ := Lib.hid hq
    cases g
    · simp only [pNextNodes, b1, hq, Bool.and_false] at hp
      cases hp
      clear hq
      go_enter Try.func26, Try.ntmps26
      go_wp2_with fail
      refine (isMaze_c _ m _ (hm.later (by (repeat (first | exact Below.refl _ _ | apply Below.drew | apply below_drewN | (refine Below.setCell ?_ (by first | omega | (simp; done) | (simp; omega) | (dsimp only; omega)) _) | (refine Below.alloc ?_ (by first | omega | (simp; done) | (simp; omega) | (dsimp only; omega)) _)))))).mono ?_
      rintro e w1 ⟨rfl, hb1⟩
      have HB1 : Hid (Below w.heap.size w w1) := below_then (by (repeat (first | exact Below.refl _ _ | apply Below.drew | apply below_drewN | (refine Below.setCell ?_ (by first | omega | (simp; done) | (simp; omega) | (dsimp only; omega)) _) | (refine Below.alloc ?_ (by first | omega | (simp; done) | (simp; omega) | (dsimp only; omega)) _)))) hb1
      obtain ⟨q0, q1, q2, z1⟩ := box3 hb1 (by simp)
      clear hb1
      rw [b1]
      go_wp2_with fail
      refine (isEntryOrder_c _ m _ _ l _ (hm.later HB1.out) OK.out (hA.later HB1.out) hl).mono ?_
      rintro e w2 ⟨rfl, hb2⟩
      have HB2 := Lib.hid (below_then HB1.out hb2)
      rw [HQ.out]
      go_wp2_with fail
      go_ret2
      exact ⟨_, rfl, ⟨rfl, .inl ⟨rfl, rfl⟩⟩, HB2.out⟩
    · simp only [pNextNodes, b1, hq, Bool.and_self, if_true] at hp
      cases hp
      have hin : InM m n := by
        by_cases h0 : l.length = 0
        · unfold ordP at hq; rw [if_pos h0] at hq; cases hq
        · unfold ordP at hq; rw [if_neg h0] at hq
          split at hq
          · rename_i n0 h; cases hq; exact HLT.out _ _ h
          · cases hq
      have hnl := nexN_lt OK.out n
      clear hq
      go_enter Try.func26, Try.ntmps26
      go_wp2_with fail
      refine (isMaze_c _ m _ (hm.later (by (repeat (first | exact Below.refl _ _ | apply Below.drew | apply below_drewN | (refine Below.setCell ?_ (by first | omega | (simp; done) | (simp; omega) | (dsimp only; omega)) _) | (refine Below.alloc ?_ (by first | omega | (simp; done) | (simp; omega) | (dsimp only; omega)) _)))))).mono ?_
      rintro e w1 ⟨rfl, hb1⟩
      have HB1 : Hid (Below w.heap.size w w1) := below_then (by (repeat (first | exact Below.refl _ _ | apply Below.drew | apply below_drewN | (refine Below.setCell ?_ (by first | omega | (simp; done) | (simp; omega) | (dsimp only; omega)) _) | (refine Below.alloc ?_ (by first | omega | (simp; done) | (simp; omega) | (dsimp only; omega)) _)))) hb1
      have HX1 := Lib.hid hb1
      obtain ⟨q0, q1, q2, z1⟩ := box3 hb1 (by simp)
      clear hb1
      rw [b1]
      go_wp2_with fail
      refine (isEntryOrder_c _ m _ _ l _ (hm.later HB1.out) OK.out (hA.later HB1.out) hl).mono ?_
      rintro e w2 ⟨rfl, hb2⟩
      have HB2 := Lib.hid (below_then HB1.out hb2)
      clear q0 q1 q2
      obtain ⟨q0, q1, q2, z2⟩ := box3 (below_then HX1.out hb2) (by simp)
      clear hb2
      rw [HQ.out]
      go_wp2_with fail
      refine (nexts_c _ m n _ (hm.later HB2.out) OK.out hin).mono ?_
      rintro e w3 ⟨rfl, hb3⟩
      have HB3 := Lib.hid (below_then HB2.out hb3)
      go_wp2_with fail
      refine (members_c (nexN m n) (by omega) _).mono ?_
      rintro e w4 ⟨u, rfl, ho, hb4⟩
      have HI := Lib.hid ho; clear ho
      go_wp2_with fail
      go_ret2
      exact ⟨_, rfl, (Own.mono (Own.of HI.out) HB3.out.size (Nat.le_refl _)).row, below_then HB3.out hb4⟩
end Go.Proofs.Ytbjcabphiddjgaa
