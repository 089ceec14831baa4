/- Contract of nextLocks. -/
import Derived.Test.YtbaahghfjmkeoaaKdSNext
import Derived.Test.YtbaahghfjmkeoaaKdDel
import Derived.Test.YtbaahghfjmkeoaaKdNear
set_option linter.unusedVariables false
set_option linter.unusedSimpArgs false
namespace Go.KD
open Go.RowKit
theorem op_ofMem {m : Mz} {O : Nat} {L : List Int} (h : OpOk m O L) : OpOk m O (mem O) :=
  ⟨(Go.KD.mem_sorted O).imp fun h => by omega, fun _ => Iff.rfl, h.lt, fun c hc => by rw [leftC_perm h]; exact h.left c hc⟩
theorem canK_perm {m : Mz} {O : Nat} {L : List Int} (h : OpOk m O L) (k : Nat) : canK m O (mem O) k = canK m O L k := by
  unfold canK; simp only [leftC_perm h]
theorem nextL_perm {m : Mz} {O : Nat} {L : List Int} (h : OpOk m O L) : nextL m O (mem O) = nextL m O L := by
  unfold nextL nextK; simp only [canK_perm h]
/-- Is some colour of a lock not left? -/
def lackP (LF : List Int) (c : Int) : Bool := decide (LF[c.toNat]! = 0)
theorem lack_all {m : Mz} {O : Nat} {L : List Int} (h : OpOk m O L) {z : Nat} (hz : z < 64) : anyP (lackP (leftL m (nearN m O) L)) (mem z) = !((List.range 6).all fun c => !(z.testBit c) || decide (1 ≤ leftC m (nearN m O) L c)) := by
  rw [Bool.eq_iff_iff]
  unfold anyP
  simp only [List.any_eq_true, Bool.not_eq_true', ← Bool.not_eq_true, List.all_eq_true, List.mem_range]
  constructor
  · rintro ⟨x, hx, hl⟩ hall
    obtain ⟨i, _, hb, rfl⟩ := (in_mem z x).1 hx
    have hi : i < 6 := bit_lt (n := 6) hz hb
    have h1 := hall i hi
    unfold lackP at hl
    rw [Int.toNat_natCast, leftL_at _ _ _ _ hi, decide_eq_true_eq] at hl
    rw [hb] at h1
    have : 1 ≤ leftC m (nearN m O) L i := by simpa using h1
    omega
  · intro hn
    refine Classical.byContradiction fun hc => hn fun c hc6 => ?_
    cases hb : z.testBit c
    · rfl
    · have h0 := h.left c hc6
      by_cases h1 : 1 ≤ leftC m (nearN m O) L c
      · simp [h1]
      · exact absurd ⟨(c : Int), (in_mem z _).2 ⟨c, by omega, hb, rfl⟩, by unfold lackP; rw [Int.toNat_natCast, leftL_at _ _ _ _ hc6, decide_eq_true_eq]; omega⟩ hc
theorem canK_lack {m : Mz} {O : Nat} {L : List Int} (h : OpOk m O L) {k xn yn zn : Nat} (hz : zn < 64) (hX : m.doors[k]! = ((xn : Int), (yn : Int), (zn : Int))) : canK m O L k = (!O.testBit k && ((nearN m O).testBit xn || (nearN m O).testBit yn) && !(anyP (lackP (leftL m (nearN m O) L)) (mem zn))) := by
  rw [lack_all h hz, Bool.not_not]
  unfold canK
  rw [hX]
  rfl
def skipP (m : Mz) (O : Nat) (L : List Int) (k : Int) : Bool := !(canK m O L k.toNat)
theorem next_keep (m : Mz) (O : Nat) (L : List Int) : keepL (skipP m O L) (locksI m) = nextL m O L := by
  unfold keepL locksI locksK nextL nextK skipP
  rw [List.filter_map, List.filter_filter]
  congr 1
  refine List.filter_congr fun x _ => ?_
  simp [Bool.and_comm]
theorem locks_at {m : Mz} {k : Nat} (hk : k < (locksI m).length) : ∃ j : Nat, (locksI m)[k]! = (j : Int) ∧ j < m.doors.length := by
  have hm : (locksI m)[k]! ∈ locksI m := by rw [getElem!_pos _ k hk]; exact List.getElem_mem hk
  unfold locksI locksK at hm
  simp only [List.mem_map, List.mem_filter, List.mem_range] at hm
  obtain ⟨j, ⟨hj, _⟩, he⟩ := hm
  unfold locksI locksK
  exact ⟨j, he.symm, hj⟩
end Go.KD
namespace Go.Proofs.Ytbaahghfjmkeoaa
open Go.RowKit Go.KD
attribute [local go_sem] later_cell later_frozen
set_option maxHeartbeats 1000000 in
theorem nlKK_c (LF : List Int) (gv gL oL cL x : Nat) (hx : x < 6) (hl : LF.length = 6) (W : World) (hc : W.cell? ⟨gv, 0, none⟩ = some (.slice (some ⟨gL, oL, none⟩) 6 cL)) (hI : IC W (some ⟨gL, oL, none⟩) LF) :
    Calls Try.prog 104 #[.int .i64 x, .pointer (some ⟨gv, 0, none⟩)] W fun e w' => e = .returned (.bool (lackP LF x)) ∧ Below W.heap.size W w' := by
  have hx6 : (x : Int) < 6 := by omega
  have hx0 : (0 : Int) ≤ (x : Int) := by omega
  obtain ⟨b, off, y, ha, HY, hbs, e0⟩ := hI.at x (by omega)
  cases ha
  have HP : Hid (lackP LF x = decide (y = 0)) := by show _ = _; unfold lackP; rw [Int.toNat_natCast, HY.out]
  clear hl
  go_enter Try.func104, Try.ntmps104
  go_wp2
  go_ret
  exact ⟨ret_bool (by rw [HP.out]; rfl), Below.refl _ _⟩
set_option maxRecDepth 100000 in
set_option maxHeartbeats 8000000 in
theorem nlK_c (m : Mz) (O N : Nat) (LF : List Int) (gm go gn gv gL cd cL k : Nat) (ad : Option Addr) (p : Bool) (hk : k < m.doors.length) (ok : MzOk m) (hN : N < 4096) (hO : O < 1073741824) (hl : LF.length = 6) (W : World)
    (hp : ∀ xn yn zn : Nat, m.doors[k]! = ((xn : Int), (yn : Int), (zn : Int)) → p = !(!O.testBit k && (N.testBit xn || N.testBit yn) && !(anyP (lackP LF) (mem zn))))
    (hd : D3C W ad m.doors) (h1 : W.cell? ⟨gm, 1, none⟩ = some (.slice ad m.doors.length cd)) (h2 : W.cell? ⟨go, 0, none⟩ = some (.int .i64 O)) (h3 : W.cell? ⟨gn, 0, none⟩ = some (.int .i64 N)) (h4 : W.cell? ⟨gv, 0, none⟩ = some (.slice (some ⟨gL, 0, none⟩) 6 cL)) (hI : IC W (some ⟨gL, 0, none⟩) LF)
    (g1 : gm < W.heap.size) (g2 : go < W.heap.size) (g3 : gn < W.heap.size) (g4 : gv < W.heap.size) :
    Calls Try.prog 102 #[.int .i64 k, .pointer (some ⟨gm, 0, none⟩), .pointer (some ⟨go, 0, none⟩), .pointer (some ⟨gn, 0, none⟩), .pointer (some ⟨gv, 0, none⟩)] W fun e w' => e = .returned (.bool p) ∧ Below W.heap.size W w' := by
  have hkI : (k : Int) < (m.doors.length : Int) := by omega
  have hng : m.doors.length ≤ 30 := ok.nd
  have hk63 : (k : Int) < 64 := by omega
  obtain ⟨b, off, x0, y0, z0, hadx, HX, hbs, e0, e1, e2⟩ := hd.at k hk
  subst hadx
  obtain ⟨f1, f2, f3, f4, f5⟩ := door_facts ok hk HX.out
  obtain ⟨xn, rfl⟩ := Int.eq_ofNat_of_zero_le f1
  obtain ⟨yn, rfl⟩ := Int.eq_ofNat_of_zero_le (show 0 ≤ y0 by omega)
  obtain ⟨zn, rfl⟩ := Int.eq_ofNat_of_zero_le f4
  have hs2 : m.size ≤ 12 := ok.s2
  have HP := Lib.hid (hp xn yn zn HX.out)
  obtain ⟨pX, HPX, ep, hpx⟩ := shl_at xn (by omega)
  obtain ⟨qX, HQX, eq, hqx⟩ := shl_at yn (by omega)
  have hx0 : (xn : Int) < 12 := by omega
  have hy0 : (yn : Int) < 12 := by omega
  have HZ0 : Hid ((N.testBit xn || N.testBit yn) = false → N &&& (pX ||| qX) = 0) := by rw [HPX.out, HQX.out]; exact and_two
  have HZ1 : Hid ((N.testBit xn || N.testBit yn) = true → N &&& (pX ||| qX) ≠ 0) := by rw [HPX.out, HQX.out]; exact and_two'
  have hpq : pX ||| qX < 4096 := Nat.or_lt_two_pow (n := 12) hpx hqx
  have eo : bits .or .i64 (pX : Int) (qX : Int) = ((pX ||| qX : Nat) : Int) := i64_or pX qX (by omega) (by omega)
  obtain ⟨bN, hbN⟩ : ∃ bN, bN = pX ||| qX := ⟨_, rfl⟩
  rw [← hbN] at hpq eo HZ0 HZ1
  have ea : bits .and .i64 (N : Int) (bN : Int) = ((N &&& bN : Nat) : Int) := i64_and N bN (by omega) (by omega)
  obtain ⟨tN, htN⟩ : ∃ tN, tN = N &&& bN := ⟨_, rfl⟩
  rw [← htN] at ea HZ0 HZ1
  clear hbN htN hp
  obtain ⟨y, HY, ey⟩ := shr_at O k
  have hy : y < 1099511627776 := by
    have := HY.out; rw [Nat.shiftRight_eq_div_pow] at *; have := Nat.div_le_self O (2 ^ k); omega
  have eb : bits .and .i64 (y : Int) 1 = ((y % 2 : Nat) : Int) := and1 hy
  have hb1 := bit_shr O k
  rw [← HY.out] at hb1
  rw [hb1] at eb
  clear hb1 hy
  obtain ⟨pa, hpa⟩ : ∃ pa, pa = (N.testBit xn || N.testBit yn) := ⟨_, rfl⟩
  rw [← hpa] at HP HZ0 HZ1
  obtain ⟨ob, hob⟩ : ∃ ob, ob = O.testBit k := ⟨_, rfl⟩
  rw [← hob] at HP eb
  have HI := Lib.hid hI
  have HL := Lib.hid hl
  have hz64 : zn < 64 := by omega
  clear hpa hob hd hI hl ok
  cases ob
  case true =>
    simp only [if_true] at eb
    have HPT : Hid (p = true) := by show _ = _; rw [HP.out]; rfl
    go_enter Try.func102, Try.ntmps102
    go_wp2
    go_quiet (fail)
    go_wp2
    go_ret
    exact ⟨ret_bool (by rw [HPT.out]), below_drewN (by (repeat (first | exact Below.refl _ _ | apply Below.drew | apply below_drewN | (refine Below.setCell ?_ (by first | omega | (simp; done) | (simp; omega) | (dsimp only; omega)) _) | (refine Below.alloc ?_ (by first | omega | (simp; done) | (simp; omega) | (dsimp only; omega)) _)))) _⟩
  case false =>
    simp only [Bool.false_eq_true, if_false] at eb
    cases pa
    case false =>
      have ht0 := HZ0.out rfl
      subst ht0
      have HPT : Hid (p = true) := by show _ = _; rw [HP.out]; rfl
      go_enter Try.func102, Try.ntmps102
      go_wp2
      go_quiet (fail)
      go_wp2
      go_ret
      exact ⟨ret_bool (by rw [HPT.out]), below_drewN (by (repeat (first | exact Below.refl _ _ | apply Below.drew | apply below_drewN | (refine Below.setCell ?_ (by first | omega | (simp; done) | (simp; omega) | (dsimp only; omega)) _) | (refine Below.alloc ?_ (by first | omega | (simp; done) | (simp; omega) | (dsimp only; omega)) _)))) _⟩
    case true =>
      have ht0 : tN ≠ 0 := HZ1.out rfl
      have ht1 : ((tN : Int) == 0) = false := by simpa using ht0
      have ht2 : decide (tN = 0) = false := by simpa using ht0
      have HPT : Hid (p = anyP (lackP LF) (mem zn)) := by show _ = _; rw [HP.out]; simp
      have HML := Lib.hid (mem_len40z zn)
      go_enter Try.func102, Try.ntmps102
      go_wp2
      have hb0 : Below W.heap.size W (W.alloc (.cells #[.int .i64 xn, .int .i64 yn, .int .i64 zn] 55)).drew := ((Below.refl _ _).alloc (Nat.le_refl _) _).drew
      have HB0 := Lib.hid hb0
      have q2 : (W.alloc (.cells #[.int .i64 xn, .int .i64 yn, .int .i64 zn] 55)).drew.cell? ⟨go, 0, none⟩ = some (.int .i64 O) := (hb0.cell (p := ⟨go, 0, none⟩) g2).trans h2
      have q3 : (W.alloc (.cells #[.int .i64 xn, .int .i64 yn, .int .i64 zn] 55)).drew.cell? ⟨gn, 0, none⟩ = some (.int .i64 N) := (hb0.cell (p := ⟨gn, 0, none⟩) g3).trans h3
      have hbx : Below (W.heap.size + 1) (W.alloc (.cells #[.int .i64 xn, .int .i64 yn, .int .i64 zn] 55)) (W.alloc (.cells #[.int .i64 xn, .int .i64 yn, .int .i64 zn] 55)).drew := (Below.refl _ _).drew
      obtain ⟨q4, q5, q6, z1⟩ := box3 hbx (by omega)
      clear hbx hb0
      go_region_held3 (fun V => V.cell? ⟨go, 0, none⟩ = some (.int .i64 O) ∧ V.cell? ⟨gn, 0, none⟩ = some (.int .i64 N) ∧ V.cell? ⟨W.heap.size, 0, none⟩ = some (.int .i64 xn) ∧ V.cell? ⟨W.heap.size, 1, none⟩ = some (.int .i64 yn) ∧ V.cell? ⟨W.heap.size, 2, none⟩ = some (.int .i64 zn))
        (first | exact ⟨q2, q3, q4, q5, q6⟩ | exact ⟨r2, r3, r4, r5, r6⟩ | exact ⟨s2, s3, s4, s5, s6⟩)
        (first
          | (go_at_call 74; refine (members_c zn (by omega) _).mono ?_; rintro e w2 ⟨v2, rfl, ho2, hb2⟩; obtain ⟨a2, c2, rfl, -, hi2⟩ := (Own.of ho2).ic; have HB2 : Hid (Below W.heap.size W w2) := Below.trans (by (repeat (first | exact Below.refl _ _ | apply Below.drew | apply below_drewN | (refine Below.setCell ?_ (by first | omega | (simp; done) | (simp; omega) | (dsimp only; omega)) _) | (refine Below.alloc ?_ (by first | omega | (simp; done) | (simp; omega) | (dsimp only; omega)) _)))) (hb2.mono (by simp)); have HI2 := Lib.hid hi2; have r2 : w2.cell? ⟨go, 0, none⟩ = some (.int .i64 O) := (HB2.out.cell (p := ⟨go, 0, none⟩) g2).trans h2; have r3 : w2.cell? ⟨gn, 0, none⟩ = some (.int .i64 N) := (HB2.out.cell (p := ⟨gn, 0, none⟩) g3).trans h3; have hb2' : Below (W.heap.size + 1) (W.alloc (.cells #[.int .i64 xn, .int .i64 yn, .int .i64 zn] 55)) w2 := Below.trans (by (repeat (first | exact Below.refl _ _ | apply Below.drew | apply below_drewN | (refine Below.setCell ?_ (by first | omega | (simp; done) | (simp; omega) | (dsimp only; omega)) _) | (refine Below.alloc ?_ (by first | omega | (simp; done) | (simp; omega) | (dsimp only; omega)) _)))) (hb2.mono (by simp)); obtain ⟨r4, r5, r6, z2⟩ := box3 hb2' (by omega); clear ho2 hi2 hb2 hb2')
          | (go_at_call 103; refine (containsFunc_c 104 Try.f104 Try.func104 (by kernel_rfl) rfl _ (lackP LF) _ _ _ (mem zn) _ rfl HI2.out (by have := HML.out; omega) (fun j xx hj hxx w' hb' => by obtain ⟨i, _, hbi, hei⟩ := (in_mem zn xx).1 (by rw [← hxx, getElem!_pos _ j hj]; exact List.getElem_mem hj); subst hei; exact nlKK_c LF gv gL 0 cL i (bit_lt (n := 6) hz64 hbi) HL.out w' (((HB2.out.trans (hb'.mono HB2.out.size)).cell (p := ⟨gv, 0, none⟩) g4).trans h4) (HI.out.later (HB2.out.trans (hb'.mono HB2.out.size))))).mono ?_; rintro e w3 ⟨rfl, hb3⟩; have HB3 : Hid (Below W.heap.size W w3) := HB2.out.trans (hb3.mono HB2.out.size); have s2 : w3.cell? ⟨go, 0, none⟩ = some (.int .i64 O) := (HB3.out.cell (p := ⟨go, 0, none⟩) g2).trans h2; have s3 : w3.cell? ⟨gn, 0, none⟩ = some (.int .i64 N) := (HB3.out.cell (p := ⟨gn, 0, none⟩) g3).trans h3; have s4 := (hb3.cell (p := ⟨W.heap.size, 0, none⟩) z2).trans r4; have s5 := (hb3.cell (p := ⟨W.heap.size, 1, none⟩) z2).trans r5; have s6 := (hb3.cell (p := ⟨W.heap.size, 2, none⟩) z2).trans r6; clear hb3))
      all_goals
        go_wp2
        go_ret
        exact ⟨ret_bool (by rw [HPT.out]), HB3.out⟩
end Go.Proofs.Ytbaahghfjmkeoaa
