/- Contracts of rounds, atLast, canWin. -/
import Derived.Test.YtmilpahggceemaaKdOwn
import Derived.Test.YtmilpahggceemaaKdSteps2
set_option linter.unusedVariables false
set_option linter.unusedSimpArgs false
namespace Go.KD
open Go.RowKit
def c2p (l : List (Nat × Nat)) : List Value := l.flatMap fun d => [.int .i64 (d.1 : Int), .int .i64 (d.2 : Int)]
def rsL (m : Mz) (s k : Nat) : List (Nat × Nat) := (List.range k).map fun i => (gK m s i, reachN m 0 (gK m s i))
theorem rsL_snoc (m : Mz) (s k : Nat) : rsL m s (k + 1) = rsL m s k ++ [(gK m s k, reachN m 0 (gK m s k))] := by simp [rsL, List.range_succ]
@[simp] theorem rsL_len (m : Mz) (s k : Nat) : (rsL m s k).length = k := by simp [rsL]
theorem c2p_snoc (l : List (Nat × Nat)) (a b : Nat) : c2p (l ++ [(a, b)]) = c2p l ++ [.int .i64 (a : Int), .int .i64 (b : Int)] := by simp [c2p]
theorem length_c2p (l : List (Nat × Nat)) : (c2p l).length = l.length * 2 := by
  induction l with
  | nil => rfl
  | cons d l ih => simp only [c2p, List.flatMap_cons, List.length_append, List.length_cons] at *; simp at *; omega
theorem get_c2p (m : Mz) (s k : Nat) : (c2p (rsL m s (k + 1)))[k * 2]? = some (.int .i64 (gK m s k : Int)) ∧ (c2p (rsL m s (k + 1)))[k * 2 + 1]? = some (.int .i64 (reachN m 0 (gK m s k) : Int)) := by
  have hl : (c2p (rsL m s k)).length = k * 2 := by rw [length_c2p, rsL_len]
  rw [rsL_snoc, c2p_snoc, List.getElem?_append_right (by omega), List.getElem?_append_right (by omega), hl]
  simp
theorem two_new (w : World) (x y : Value) (t : TypeId) (j : Nat) (u : Value) (h : [x, y][j]? = some u) : (w.alloc (.cells #[x, y] t)).cell? ((⟨w.heap.size, 0, none⟩ : Addr).add j) = some u := by
  rw [add_at rfl, Nat.zero_add]
  have e : (w.alloc (.cells #[x, y] t)).cell? ⟨w.heap.size, j, none⟩ = _ := World.cell?_alloc_new w _ t j
  rw [e, ← h]
  simp
end Go.KD
namespace Go.Proofs.Ytmilpahggceemaa
open Go.RowKit Go.KD
attribute [local go_sem] later_cell later_frozen
theorem infoR : (Try.prog.info? 146).map (fun i => (i.zero, i.size, i.bytes)) = some (some (.agg #[.int .i64 0, .int .i64 0]), 2, 16) := by kernel_rfl
set_option maxRecDepth 100000 in
set_option maxHeartbeats 8000000 in
theorem rounds_c (v : Value) (m : Mz) (s : Nat) (w : World) (hm : MzAt w v m) (ok : MzOk m) (hs : s < 64) : Calls Try.prog 286 #[v, .int .i64 s] w fun e w' =>
    ∃ u, e = .returned u ∧ ∃ k, w'.ownsRow w.heap.size 146 2 u (k + 1) (c2p (rsL m s (k + 1))) ∧ k ≤ gK m s k ∧ gainN m (gK m s k) = gK m s k ∧ (∀ j, j < k → gainN m (gK m s j) ≠ gK m s j) ∧ Below w.heap.size w w' := by
  have hM := hm
  obtain ⟨⟨ad, cd, ak, ck, rfl, hd, hk'⟩, nd, nk⟩ := hM
  obtain ⟨i0, ji, jz0, jz1, jz2⟩ := info_parts infoR
  have HGL := Lib.hid (gK_lt ok hs)
  have HKL := Lib.hid (keysL_lt ok)
  have HS1 : Hid (((0 : Nat) : Int) < m.size) := by have := ok.s1; show _ < _; omega
  have HRI : Hid (∀ t, InM m (reachN m 0 t)) := fun t => reachN_in ok t HS1.out
  have hnk : (m.keys.length : Int) = m.size := ok.nk
  have HNK := Lib.hid hnk; clear hnk
  have OK := Lib.hid ok; clear ok
  go_enter Try.func286, Try.ntmps286
  go_wp2
  go_loopw [5, 6] (fun u t wr => ∃ k : Nat, t = .int .i64 (gK m s k) ∧ k ≤ gK m s k ∧ Below (w.heap.size + 1) (w.alloc (.cells #[.int .i64 m.size, .slice ad m.doors.length cd, .slice ak m.keys.length ck] 75)) wr ∧ Hid (wr.ownsRow (w.heap.size + 1) 146 2 u k (c2p (rsL m s k))) ∧ Hid (∀ j, j < k → gainN m (gK m s j) ≠ gK m s j)) (fun _ t _ => 64 - (intOf t).toNat)
  case atStart => exact ⟨0, rfl, Nat.zero_le _, (Below.refl _ _).alloc (by simp) _, by have := World.ownsRow_lit (base := w.heap.size + 1) (e := 146) (size := 2) (w.alloc (.cells #[.int .i64 m.size, .slice ad m.doors.length cd, .slice ak m.keys.length ck] 75)) #[] 0 (by simp) (by unfold maxLen; omega) rfl; simp at this; exact this, fun j hj => absurd hj (Nat.not_lt_zero j)⟩
  case round =>
    obtain ⟨wo, rfl⟩ : ∃ wo : World, wo = wr := ⟨_, rfl⟩
    obtain ⟨k, rfl, hk, hb, HO, HJ⟩ := hrel
    have HBo := Lib.hid hb
    have HB := Lib.hid (below_box hb (by omega))
    obtain ⟨q0, q1, q2, z1⟩ := box3 hb (by omega)
    clear hb
    have hg := HGL.out k
    have hg1 := HGL.out (k + 1)
    have HN : Hid (gK m s (k + 1) = gK m s k ||| keysL m (mem (reachN m 0 (gK m s k)))) := rfl
    have HSN : Hid (rsL m s (k + 1) = rsL m s k ++ [(gK m s k, reachN m 0 (gK m s k))]) := rsL_snoc m s k
    have HFX : Hid (gainN m (gK m s k) = gK m s (k + 1)) := rfl
    obtain ⟨sN, hsN⟩ : ∃ sN, sN = gK m s k := ⟨_, rfl⟩
    obtain ⟨tN, htN⟩ : ∃ tN, tN = gK m s (k + 1) := ⟨_, rfl⟩
    rw [← hsN] at hg hk HN HSN HFX ⊢
    rw [← htN] at hg1 HN HFX
    have HSE := Lib.hid hsN
    have HTE := Lib.hid htN
    clear hsN htN
    have hri := HRI.out sN
    have hrl := hri.lt OK.out
    obtain ⟨X, hX⟩ : ∃ X, X = reachN m 0 sN := ⟨_, rfl⟩
    rw [← hX] at hri hrl HN HSN
    have HX := Lib.hid hX; clear hX
    have HIN := Lib.hid hri; clear hri
    obtain ⟨aM, cM, rfl⟩ := own_slice HO.out
    go_wp2_with fail
    refine (reach_c _ m 0 sN _ (hm.later HB.out) OK.out HS1.out).mono ?_
    rintro e w2 ⟨rfl, hb2⟩
    rw [← HX.out]
    have HB2 : Hid (Below (w.heap.size + 1) (w.alloc (.cells #[.int .i64 m.size, .slice ad m.doors.length cd, .slice ak m.keys.length ck] 75)) w2) := HBo.out.trans (hb2.mono (by omega))
    have HO2 := Lib.hid (own_below HO.out hb2)
    clear q0 q1 q2
    obtain ⟨q0, q1, q2, z2⟩ := box3 HB2.out (by omega)
    clear hb2
    go_wp2_with fail
    refine (members_c X (by omega) _).mono ?_
    rintro e w3 ⟨v3, rfl, ho3, hb3⟩
    obtain ⟨a3, c3, rfl, -, hc3⟩ := (Own.of ho3).ic
    have HB3 : Hid (Below (w.heap.size + 1) (w.alloc (.cells #[.int .i64 m.size, .slice ad m.doors.length cd, .slice ak m.keys.length ck] 75)) w3) := HB2.out.trans (hb3.mono (by omega))
    have HO3 := Lib.hid (own_below HO2.out hb3)
    clear q0 q1 q2
    obtain ⟨q0, q1, q2, z3⟩ := box3 HB3.out (by omega)
    have HB3w := Lib.hid (below_box HB3.out (by omega))
    have h40 := mem_len40' X
    have hLm : Hid (∀ k x, k < (mem X).length → (mem X)[k]! = x → ∃ i : Nat, x = i ∧ X.testBit i = true) := fun k x => mem_at
    obtain ⟨L, hL⟩ : ∃ L, L = mem X := ⟨_, rfl⟩
    rw [← hL] at hc3 h40 hLm HN ⊢
    clear hb3 ho3 hL
    have hkw := hk'.later HB3w.out
    go_wp2
    go_loop [8, 20] (fun n i => ∃ j : Nat, j ≤ L.length ∧ i = .int .i64 j ∧ n = .int .i64 ((sN ||| keysL m (L.take j) : Nat))) (fun _ i => L.length - (intOf i).toNat)
    case atStart => exact ⟨0, Nat.zero_le _, rfl, by simp [keysL]⟩
    case round =>
      obtain ⟨j, hj, rfl, rfl⟩ := hrel
      have hs := HKL.out (L.take j)
      by_cases hlt : j < L.length
      · obtain ⟨b, off, x, rfl, HXx, hbs, e0⟩ := hc3.at j hlt
        obtain ⟨i, rfl, hi⟩ := hLm.out j x hlt HXx.out
        have hik := HIN.out i hi
        have hil : i < m.keys.length := by have := HNK.out; omega
        obtain ⟨b2, off2, y, rfl, HY, hbs2, e1⟩ := hkw.at i hil
        have hy := key_facts OK.out hil
        rw [HY.out] at hy
        obtain ⟨yn, rfl⟩ := Int.eq_ofNat_of_zero_le hy.1
        have HS : Hid (keysL m (L.take (j + 1)) = keysL m (L.take j) ||| yn) := by
          show _ = _
          rw [take_snoc hlt, keysL_snoc, HXx.out]
          simp only [Int.toNat_natCast]
          rw [HY.out]; rfl
        obtain ⟨uN, huN⟩ : ∃ uN, uN = keysL m (L.take j) := ⟨_, rfl⟩
        rw [← huN] at hs HS ⊢
        clear huN
        have hor : sN ||| uN < 64 := Nat.or_lt_two_pow (n := 6) hg hs
        obtain ⟨vN, hvN⟩ : ∃ vN, vN = sN ||| uN := ⟨_, rfl⟩
        rw [← hvN] at hor ⊢
        have HV := Lib.hid hvN; clear hvN
        have ea : bits .or .i64 (vN : Int) (yn : Int) = ((vN ||| yn : Nat) : Int) := i64_or vN yn (by omega) (by omega)
        have hil' : (i : Int) < (m.keys.length : Int) := by omega
        clear hi
        go_wp2
        go_round
        case rel => exact ⟨j + 1, by omega, by go_num, by rw [HS.out, HV.out, Nat.or_assoc]⟩
        case measure => simp [intOf]; omega
      · obtain rfl : j = L.length := by omega
        have HN' : Hid (sN ||| keysL m (L.take L.length) = tN) := by show _ = _; rw [List.take_length, HN.out]
        rw [HN'.out]
        have hkk : k ≤ 64 := by omega
        have hz3 : w.heap.size + 1 ≤ w3.heap.size := by omega
        cases he : decide (tN = sN)
        · have hne : tN ≠ sN := by simpa using he
          have hlt2 : sN < tN := by
            have h1 : sN ≤ sN ||| keysL m L := Nat.left_le_or
            have := HN.out; omega
          have HNE := Lib.hid hne
          have hq : ¬ ((tN : Int) = (sN : Int)) := by omega
          have HLT := Lib.hid hlt2
          clear he hne hlt2
          go_wp2_with (at_builtin; refine wpList_append_own _ rfl _ _ 178 rfl (w.heap.size + 1) 146 i0 (.agg #[.int .i64 0, .int .i64 0]) 2 16 Try.underlying178 ji jz0 jz1 jz2 rfl (by decide) _ _ _ rfl (HO3.out.alloc _) ⟨w3.heap.size, 0, none⟩ 1 1 [.int .i64 sN, .int .i64 X] rfl rfl ?_ ?_ ?_ ?_ ?_ ?_; (exact two_new _ _ _ _); (simp [Value.oneCell']); (unfold maxLen; omega); omega; (simp; omega); intro v' w4 hown' hgrow _)
          go_roundw
          case rel => exact ⟨k + 1, by rw [HTE.out], by have := HLT.out; have := HTE.out; omega, (HB3.out.alloc hz3 _).grown hgrow (by simp; omega) (fun g hg => own_block_lo HO3.out hg), by rw [HSN.out, c2p_snoc]; exact hown', hid_step HJ (by rw [← HSE.out, HFX.out]; exact HNE.out)⟩
          case measure => have := HLT.out; simp [intOf]; omega
        · have hte : tN = sN := by simpa using he
          have HFE : Hid (gainN m sN = sN) := by show _ = _; rw [HFX.out, hte]
          rw [hte]
          clear he hte
          go_wp2_with (at_builtin; refine wpList_append_own _ rfl _ _ 178 rfl (w.heap.size + 1) 146 i0 (.agg #[.int .i64 0, .int .i64 0]) 2 16 Try.underlying178 ji jz0 jz1 jz2 rfl (by decide) _ _ _ rfl (HO3.out.alloc _) ⟨w3.heap.size, 0, none⟩ 1 1 [.int .i64 sN, .int .i64 X] rfl rfl ?_ ?_ ?_ ?_ ?_ ?_; (exact two_new _ _ _ _); (simp [Value.oneCell']); (unfold maxLen; omega); omega; (simp; omega); intro v' w4 hown' hgrow _)
          have HB4 : Hid (Below (w.heap.size + 1) (w.alloc (.cells #[.int .i64 m.size, .slice ad m.doors.length cd, .slice ak m.keys.length ck] 75)) w4) := (HB3.out.alloc hz3 _).grown hgrow (by simp; omega) (fun g hg => own_block_lo HO3.out hg)
          go_ret
          exact ⟨_, rfl, k, by rw [HSN.out, c2p_snoc]; exact (Own.mono (Own.of hown') (by omega) (Nat.le_refl _)).row, by rw [← HSE.out]; exact hk, by rw [← HSE.out]; exact HFE.out, HJ.out, below_box HB4.out (by omega)⟩
set_option maxHeartbeats 2000000 in
theorem atLast_c (v : Value) (m : Mz) (s : Nat) (w : World) (hm : MzAt w v m) (ok : MzOk m) (hs : s < 64) : Calls Try.prog 209 #[v, .int .i64 s] w fun e w' =>
    e = .returned (.agg #[.int .i64 (lastN m s), .int .i64 (nodesN m s)]) ∧ Below w.heap.size w w' := by
  have hM := hm
  obtain ⟨⟨ad, cd, ak, ck, rfl, hd, hk'⟩, nd, nk⟩ := hM
  have OK := Lib.hid ok; clear ok
  go_enter Try.func209, Try.ntmps209
  go_wp2_with fail
  refine (rounds_c _ m s _ (hm.later (by (repeat (first | exact Below.refl _ _ | apply Below.drew | apply below_drewN | (refine Below.setCell ?_ (by first | omega | (simp; done) | (simp; omega) | (dsimp only; omega)) _) | (refine Below.alloc ?_ (by first | omega | (simp; done) | (simp; omega) | (dsimp only; omega)) _))))) OK.out hs).mono ?_
  rintro e w1 ⟨u, rfl, k, ho, hk, hfx, -, hb1⟩
  have HE := Lib.hid (lastN_eq OK.out hs hk hfx)
  obtain ⟨g, cap, rfl, -, -⟩ := ho.form (by omega)
  have c0 : w1.cell? ⟨g, k * 2, none⟩ = some (.int .i64 (gK m s k : Int)) := by rw [ho.cellAt (k * 2) (by omega)]; exact (get_c2p m s k).1
  have c1 : w1.cell? ⟨g, k * 2 + 1, none⟩ = some (.int .i64 (reachN m 0 (gK m s k) : Int)) := by rw [ho.cellAt (k * 2 + 1) (by omega)]; exact (get_c2p m s k).2
  have HV : Hid (gK m s k = lastN m s ∧ reachN m 0 (gK m s k) = nodesN m s) := by show _ ∧ _; unfold nodesN; rw [HE.out]; exact ⟨rfl, rfl⟩
  rw [HV.out.1] at c0
  rw [HV.out.2] at c1
  have hz := hb1.size
  simp only [World.size_alloc] at hz
  have p0 : ∃ u, w1.cell? ⟨w.heap.size + 1, 0, none⟩ = some u := ⟨_, by rw [hb1.cell (p := ⟨w.heap.size + 1, 0, none⟩) (by simp)]; simp [go_sem]; rfl⟩
  have p1 : ∃ u, w1.cell? ⟨w.heap.size + 1, 1, none⟩ = some u := ⟨_, by rw [hb1.cell (p := ⟨w.heap.size + 1, 1, none⟩) (by simp)]; simp [go_sem]; rfl⟩
  have f0 : w1.frozen? ⟨w.heap.size + 1, 0, none⟩ = false := by rw [hb1.frozen (p := ⟨w.heap.size + 1, 0, none⟩) (by simp)]; simp [go_sem]
  have f1 : w1.frozen? ⟨w.heap.size + 1, 1, none⟩ = false := by rw [hb1.frozen (p := ⟨w.heap.size + 1, 1, none⟩) (by simp)]; simp [go_sem]
  obtain ⟨u0, p0⟩ := p0
  obtain ⟨u1, p1⟩ := p1
  have HB1 : Hid (Below w.heap.size w w1) := below_then (by (repeat (first | exact Below.refl _ _ | apply Below.drew | apply below_drewN | (refine Below.setCell ?_ (by first | omega | (simp; done) | (simp; omega) | (dsimp only; omega)) _) | (refine Below.alloc ?_ (by first | omega | (simp; done) | (simp; omega) | (dsimp only; omega)) _)))) hb1
  have hk64 : k < 64 := by have := gK_lt OK.out hs k; omega
  clear hb1 ho hk hfx
  have hk1 : (k : Int) + 1 - 1 = (k : Int) := by omega
  go_wp2_with fail
  refine bodyPost_ret (v := .agg #[.int .i64 (lastN m s : Nat), .int .i64 (nodesN m s : Nat)]) (by simp [results, Try.results209, go_sem, p0, p1]) rfl ?_
  refine ⟨rfl, ?_⟩
  repeat (first | exact HB1.out | refine Below.setCell ?_ (by show w.heap.size ≤ w.heap.size + 1; omega) _)
theorem fieldR (a b : Int) (w : World) : Sem.run Try.prog (Instr.field 146 (.agg #[.int .i64 a, .int .i64 b]) 1) w = .ok (.int .i64 b) w := by
  simp [Instr.field, asAgg, go_sem]
attribute [local go_sem] fieldR
set_option maxRecDepth 100000 in
set_option maxHeartbeats 2000000 in
theorem canWin_c (v : Value) (m : Mz) (s : Nat) (w : World) (hm : MzAt w v m) (ok : MzOk m) (hs : s < 64) : Calls Try.prog 219 #[v, .int .i64 s] w fun e w' =>
    e = .returned (.bool (winB m s)) ∧ Below w.heap.size w w' := by
  have hM := hm
  obtain ⟨⟨ad, cd, ak, ck, rfl, hd, hk'⟩, nd, nk⟩ := hM
  have hs1 : 1 ≤ m.size := ok.s1
  have hs2 : m.size ≤ 12 := ok.s2
  have hnl : nodesN m s < 4096 := (reachN_in ok _ (by show ((0 : Nat) : Int) < m.size; omega)).lt ok
  have OK := Lib.hid ok; clear ok
  obtain ⟨sn, hsn⟩ := Int.eq_ofNat_of_zero_le (show 0 ≤ m.size - 1 by omega)
  have hsn12 : sn < 12 := by omega
  have hw : IntKind.i64.wrap (m.size - 1) = (sn : Int) := by rw [hsn]; exact IntWalk.i64_in _ (by omega)
  have HW : Hid (winB m s = (nodesN m s).testBit sn) := by show _ = _; unfold winB; rw [hsn]; rfl
  obtain ⟨X, hX⟩ : ∃ X, X = nodesN m s := ⟨_, rfl⟩
  rw [← hX] at hnl HW
  have HX := Lib.hid hX; clear hX
  obtain ⟨y, HY, ey⟩ := shr_at X sn
  have hy : y < 1099511627776 := by
    have := HY.out; rw [Nat.shiftRight_eq_div_pow] at *; have := Nat.div_le_self X (2 ^ sn); omega
  have ea : bits .and .i64 (y : Int) 1 = ((y % 2 : Nat) : Int) := and1 hy
  have hbs := bit_shr X sn
  rw [← HY.out] at hbs
  rw [hbs] at ea
  have hsn0 : (0 : Int) ≤ (sn : Int) := by omega
  have hsn63 : (sn : Int) ≤ 63 := by omega
  have HSN := Lib.hid hsn
  clear hbs hy hsn
  cases hbit : X.testBit sn
  all_goals
    rw [hbit] at ea HW
    simp only [Bool.false_eq_true, if_false, if_true] at ea
    clear hbit
    go_enter Try.func219, Try.ntmps219
    go_wp2
    obtain ⟨wo, hWo⟩ : ∃ wo, wo = w.alloc (.cells #[.int .i64 m.size, .slice ad m.doors.length cd, .slice ak m.keys.length ck] 75) := ⟨_, rfl⟩
    have hb : Below (w.heap.size + 1) (w.alloc (.cells #[.int .i64 m.size, .slice ad m.doors.length cd, .slice ak m.keys.length ck] 75)) wo := by rw [hWo]; exact Below.refl _ _
    rw [← hWo]
    have HB : Hid (Below w.heap.size w wo) := below_box hb (by omega)
    obtain ⟨q0, q1, q2, z1⟩ := box3 hb (by omega)
    clear hb hWo
    go_region_held3 (fun W => W.cell? ⟨w.heap.size, 0, none⟩ = some (.int .i64 m.size) ∧ W.cell? ⟨w.heap.size, 1, none⟩ = some (.slice ad m.doors.length cd) ∧ W.cell? ⟨w.heap.size, 2, none⟩ = some (.slice ak m.keys.length ck))
      (first | exact ⟨q0, q1, q2⟩ | exact ⟨r0, r1, r2⟩)
      ((go_at_call 209; refine (atLast_c _ m s _ (hm.later HB.out.drew) OK.out hs).mono ?_; rintro e w2 ⟨rfl, hb2⟩; rw [← HX.out]; have r0 : w2.cell? ⟨w.heap.size, 0, none⟩ = some (.int .i64 m.size) := (hb2.cell (p := ⟨w.heap.size, 0, none⟩) (show w.heap.size < wo.heap.size by assumption)).trans q0; have r1 : w2.cell? ⟨w.heap.size, 1, none⟩ = some (.slice ad m.doors.length cd) := (hb2.cell (p := ⟨w.heap.size, 1, none⟩) (show w.heap.size < wo.heap.size by assumption)).trans q1; have r2 : w2.cell? ⟨w.heap.size, 2, none⟩ = some (.slice ak m.keys.length ck) := (hb2.cell (p := ⟨w.heap.size, 2, none⟩) (show w.heap.size < wo.heap.size by assumption)).trans q2))
    go_wp2
    go_ret
    exact ⟨ret_bool (by rw [HW.out] <;> rfl), below_then HB.out.drew hb2⟩
end Go.Proofs.Ytmilpahggceemaa
