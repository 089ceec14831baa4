/- Contracts of the reference's l2Close and l6Wins. -/
import Derived.Test.YtlojcgjkjinlcaaKdReach3
import Derived.Test.YtlojcgjkjinlcaaKdOwn2
set_option linter.unusedVariables false
set_option linter.unusedSimpArgs false
namespace Go.KD
open Go.RowKit
def bools (l : List Bool) : List Value := l.map .bool
@[simp] theorem length_bools (l : List Bool) : (bools l).length = l.length := by simp [bools]
theorem bools_snoc (l : List Bool) (b : Bool) : bools (l ++ [b]) = bools l ++ [.bool b] := by simp [bools]
def winsK (m : Mz) (k : Nat) : List Bool := (List.range k).map fun t => setWinB m t
theorem winsK_snoc (m : Mz) (k : Nat) : winsK m (k + 1) = winsK m k ++ [setWinB m k] := by simp [winsK, List.range_succ]
@[simp] theorem winsK_len (m : Mz) (k : Nat) : (winsK m k).length = k := by simp [winsK]
theorem bools_at {l : List Bool} {k : Nat} (hk : k < l.length) : (bools l)[k]? = some (.bool l[k]!) := by
  rw [bools, List.getElem?_map, List.getElem?_eq_getElem hk, getElem!_pos l k hk]; rfl
theorem winsK_at {m : Mz} {n k : Nat} (hk : k < n) : (winsK m n)[k]! = setWinB m k := by
  rw [getElem!_pos _ k (by simpa using hk)]; simp [winsK]
end Go.KD
namespace Go.Proofs.Ytlojcgjkjinlcaa
open Go.RowKit Go.KD
attribute [local go_sem] later_cell later_frozen
set_option maxRecDepth 100000 in
set_option maxHeartbeats 8000000 in
theorem l2Close_c (v : Value) (m : Mz) (s : Nat) (w : World) (hm : MzAt w v m) (ok : MzOk m) (hs : s < 64) : Calls Try.prog 113 #[v, .int .i64 s] w fun e w' =>
    ∃ a c, e = .returned (.tuple #[.int .i64 (lastN m s), .slice a (mem (nodesN m s)).length c]) ∧ IC w' a (mem (nodesN m s)) ∧ Below w.heap.size w w' := by
  have hM := hm
  obtain ⟨⟨ad, cd, ak, ck, rfl, hd, hk'⟩, nd, nk⟩ := hM
  have HGL := Lib.hid (gK_lt ok hs)
  have HKL := Lib.hid (keysL_lt ok)
  have HS1 : Hid (((0 : Nat) : Int) < m.size) := by have := ok.s1; show _ < _; omega
  have HRI : Hid (∀ t, InM m (reachN m 0 t)) := fun t => reachN_in ok t HS1.out
  have hnk : (m.keys.length : Int) = m.size := ok.nk
  have HNK := Lib.hid hnk; clear hnk
  have HSS := Lib.hid hs
  have OK := Lib.hid ok; clear ok
  go_enter Try.func113, Try.ntmps113
  go_wp2
  go_loopw [1] (fun t wr => ∃ k : Nat, t = .int .i64 (gK m s k) ∧ k ≤ gK m s k ∧ Below (w.heap.size + 1) (w.alloc (.cells #[.int .i64 m.size, .slice ad m.doors.length cd, .slice ak m.keys.length ck] 29)) wr) (fun t _ => 64 - (intOf t).toNat)
  case atStart => exact ⟨0, rfl, Nat.zero_le _, Below.refl _ _⟩
  case round =>
    obtain ⟨wo, rfl⟩ : ∃ wo : World, wo = wr := ⟨_, rfl⟩
    obtain ⟨k, rfl, hk, hb⟩ := hrel
    have HBo := Lib.hid hb
    have HB := Lib.hid (below_box hb (by omega))
    obtain ⟨q0, q1, q2, z1⟩ := box3 hb (by omega)
    clear hb hs
    have hg := HGL.out k
    have hg1 := HGL.out (k + 1)
    have HN : Hid (gK m s (k + 1) = gK m s k ||| keysL m (mem (reachN m 0 (gK m s k)))) := rfl
    have HFX : Hid (gainN m (gK m s k) = gK m s (k + 1)) := rfl
    have HLE : Hid (gainN m (gK m s k) = gK m s k → lastN m s = gK m s k) := fun h => lastN_eq OK.out HSS.out hk h
    obtain ⟨sN, hsN⟩ : ∃ sN, sN = gK m s k := ⟨_, rfl⟩
    obtain ⟨tN, htN⟩ : ∃ tN, tN = gK m s (k + 1) := ⟨_, rfl⟩
    rw [← hsN] at hg hk HN HFX HLE ⊢
    rw [← htN] at hg1 HN HFX
    have HSE := Lib.hid hsN
    have HTE := Lib.hid htN
    clear hsN htN
    have hri := HRI.out sN
    have hrl := hri.lt OK.out
    go_wp2_with fail
    refine (l2Reach_c _ m 0 sN _ (hm.later HB.out) OK.out HS1.out hg).mono ?_
    rintro e w2 ⟨a2, c2, rfl, hi2, hb2⟩
    have HB2 : Hid (Below (w.heap.size + 1) (w.alloc (.cells #[.int .i64 m.size, .slice ad m.doors.length cd, .slice ak m.keys.length ck] 29)) w2) := HBo.out.trans (hb2.mono (by omega))
    clear q0 q1 q2
    obtain ⟨q0, q1, q2, z2⟩ := box3 HB2.out (by omega)
    have HB2w := Lib.hid (below_box HB2.out (by omega))
    have h40 := mem_len40' (reachN m 0 sN)
    have hLm : Hid (∀ k x, k < (mem (reachN m 0 sN)).length → (mem (reachN m 0 sN))[k]! = x → ∃ i : Nat, x = i ∧ (reachN m 0 sN).testBit i = true) := fun k x => mem_at
    have HIN := Lib.hid hri
    have HND : Hid (nodesN m s = reachN m 0 (lastN m s)) := rfl
    obtain ⟨X, hX⟩ : ∃ X, X = reachN m 0 sN := ⟨_, rfl⟩
    rw [← hX] at hi2 h40 hLm HN HIN ⊢
    have HX := Lib.hid hX
    have HC2 := Lib.hid hi2
    clear hb2 hi2 hri hrl hX
    have hkw := hk'.later HB2w.out
    go_wp2
    go_loopw [7, 8] (fun n i wr => ∃ j : Nat, j ≤ (mem X).length ∧ i = .int .i64 j ∧ n = .int .i64 ((sN ||| keysL m ((mem X).take j) : Nat)) ∧ Below w2.heap.size w2 wr) (fun _ i _ => (mem X).length - (intOf i).toNat)
    case atStart => exact ⟨0, Nat.zero_le _, rfl, by simp [keysL], Below.refl _ _⟩
    case round =>
      obtain ⟨wi, rfl⟩ : ∃ wi : World, wi = wr := ⟨_, rfl⟩
      obtain ⟨j, hj, rfl, rfl, hb⟩ := hrel
      have HBi := Lib.hid hb
      have HBx : Hid (Below (w.heap.size + 1) (w.alloc (.cells #[.int .i64 m.size, .slice ad m.doors.length cd, .slice ak m.keys.length ck] 29)) wi) := HB2.out.trans (hb.mono (by omega))
      clear q0 q1 q2
      obtain ⟨q0, q1, q2, z3⟩ := box3 HBx.out (by omega)
      have hs := HKL.out ((mem X).take j)
      by_cases hlt : j < (mem X).length
      · obtain ⟨b, off, x, rfl, HXx, hbs, e0⟩ := (HC2.out.later hb).at j hlt
        obtain ⟨i, rfl, hi⟩ := hLm.out j x hlt HXx.out
        have hik := HIN.out i hi
        have hil : i < m.keys.length := by have := HNK.out; omega
        obtain ⟨b2, off2, y, rfl, HY, hbs2, e1⟩ := (hkw.later hb).at i hil
        have hy := key_facts OK.out hil
        rw [HY.out] at hy
        obtain ⟨yn, rfl⟩ := Int.eq_ofNat_of_zero_le hy.1
        have HS : Hid (keysL m ((mem X).take (j + 1)) = keysL m ((mem X).take j) ||| yn) := by
          show _ = _
          rw [take_snoc hlt, keysL_snoc, HXx.out]
          simp only [Int.toNat_natCast]
          rw [HY.out]; rfl
        obtain ⟨uN, huN⟩ : ∃ uN, uN = keysL m ((mem X).take j) := ⟨_, rfl⟩
        rw [← huN] at hs HS ⊢
        clear huN hb
        have hor : sN ||| uN < 64 := Nat.or_lt_two_pow (n := 6) hg hs
        obtain ⟨vN, hvN⟩ : ∃ vN, vN = sN ||| uN := ⟨_, rfl⟩
        rw [← hvN] at hor ⊢
        have HV := Lib.hid hvN; clear hvN
        have ea : bits .or .i64 (vN : Int) (yn : Int) = ((vN ||| yn : Nat) : Int) := i64_or vN yn (by omega) (by omega)
        have hil' : (i : Int) < (m.keys.length : Int) := by omega
        have hjl : (j : Int) < ((mem X).length : Int) := by omega
        clear hi
        go_wp2
        go_quiet (fail)
        go_wp2
        go_roundw
        case rel => exact ⟨j + 1, by omega, by go_num, by rw [HS.out, HV.out, Nat.or_assoc], by first | exact HBi.out | exact HBi.out.drew | exact below_drewN HBi.out _⟩
        case measure => simp [intOf]; omega
      · obtain rfl : j = (mem X).length := by omega
        have HN' : Hid (sN ||| keysL m ((mem X).take (mem X).length) = tN) := by show _ = _; rw [List.take_length, HN.out]
        rw [HN'.out]
        clear hb
        cases he : decide (tN = sN)
        · have hne : tN ≠ sN := by simpa using he
          have hlt2 : sN < tN := by
            have h1 : sN ≤ sN ||| keysL m (mem X) := Nat.left_le_or
            have := HN.out; omega
          have hq : ¬ ((tN : Int) = (sN : Int)) := by omega
          have HLT := Lib.hid hlt2
          clear he hne hlt2
          go_wp2
          go_roundw
          case rel => exact ⟨k + 1, by rw [HTE.out], by have := HLT.out; have := HTE.out; omega, HBx.out⟩
          case measure => have := HLT.out; simp [intOf]; omega
        · have hte : tN = sN := by simpa using he
          have HL : Hid (lastN m s = sN) := HLE.out (by rw [HFX.out, hte])
          have HNX : Hid (nodesN m s = X) := by show _ = _; rw [HND.out, HL.out, HX.out]
          have HCI := Lib.hid (HC2.out.later HBi.out)
          have HBf := Lib.hid (below_box HBx.out (by omega))
          rw [hte]
          clear he hte
          go_wp2
          go_ret2
          exact ⟨a2, c2, by rw [HL.out, HNX.out] <;> rfl, by rw [HNX.out]; exact HCI.out, HBf.out⟩
theorem infoB : (Try.prog.info? 4).map (fun i => (i.zero, i.size, i.bytes)) = some (some (.bool false), 1, 1) := by kernel_rfl
set_option maxRecDepth 100000 in
set_option maxHeartbeats 8000000 in
theorem l6Wins_c (v : Value) (m : Mz) (w : World) (hm : MzAt w v m) (ok : MzOk m) : Calls Try.prog 88 #[v] w fun e w' =>
    ∃ u, e = .returned u ∧ w'.ownsRow w.heap.size 4 1 u 64 (bools (winsK m 64)) ∧ Below w.heap.size w w' := by
  have hM := hm
  obtain ⟨⟨ad, cd, ak, ck, rfl, hd, hk'⟩, nd, nk⟩ := hM
  obtain ⟨i0, ji, jz0, jz1, jz2⟩ := info_parts infoB
  have hs1 : 1 ≤ m.size := ok.s1
  have hs2 : m.size ≤ 12 := ok.s2
  have hnk : (m.keys.length : Int) = m.size := ok.nk
  have hkl : 0 < m.keys.length := by omega
  have hkl12 : m.keys.length ≤ 12 := by omega
  have HCO : Hid (∀ t, MzOk (cutM m t)) := fun t => cutM_ok ok t
  have HKF : Hid (∀ k, k < m.keys.length → 0 ≤ m.keys[k]! ∧ m.keys[k]! < 64) := fun k => key_facts ok
  have HWB : Hid (∀ t, hasI (mem (nodesN (cutM m t) 0)) (m.size - 1) = setWinB m t) := fun t => by
    have hl : nodesN (cutM m t) 0 < 4096 := (reachN_in (cutM_ok ok t) _ (by show ((0 : Nat) : Int) < m.size; omega)).lt (cutM_ok ok t)
    obtain ⟨sn, hsn⟩ := Int.eq_ofNat_of_zero_le (show 0 ≤ m.size - 1 by omega)
    rw [hsn, hasI_bit hl]
    unfold setWinB winB
    show _ = Nat.testBit _ (m.size - 1).toNat
    rw [hsn]; rfl
  have HNK := Lib.hid hnk; clear hnk
  have OK := Lib.hid ok; clear ok
  go_enter Try.func88, Try.ntmps88
  go_wp2
  go_loopw [3, 4] (fun u t wr => ∃ k : Nat, t = .int .i64 k ∧ k ≤ 64 ∧ Below (w.heap.size + 1) (w.alloc (.cells #[.int .i64 m.size, .slice ad m.doors.length cd, .slice ak m.keys.length ck] 29)) wr ∧ Hid (wr.ownsRow (w.heap.size + 1) 4 1 u k (bools (winsK m k)))) (fun _ t _ => 64 - (intOf t).toNat)
  case atStart => exact ⟨0, rfl, by omega, (Below.refl _ _).alloc (by simp) _, by have := World.ownsRow_lit (base := w.heap.size + 1) (e := 4) (size := 1) (w.alloc (.cells #[.int .i64 m.size, .slice ad m.doors.length cd, .slice ak m.keys.length ck] 29)) #[] 0 (by simp) (by unfold maxLen; omega) rfl; simp at this; exact this⟩
  case round =>
    obtain ⟨wo, rfl⟩ : ∃ wo : World, wo = wr := ⟨_, rfl⟩
    obtain ⟨s, rfl, hs64, hb, HO⟩ := hrel
    have HBo := Lib.hid hb
    have HB := Lib.hid (below_box hb (by omega))
    obtain ⟨q0, q1, q2, z1⟩ := box3 hb (by omega)
    clear hb
    obtain ⟨aM, cM, rfl⟩ := own_slice HO.out
    by_cases hs : s < 64
    · have hsI : (s : Int) < 64 := by omega
      have HSN := Lib.hid (winsK_snoc m s)
      go_wp2_with fail
      refine (l2Own_c _ m _ (hm.later HB.out)).mono ?_
      rintro e w1 ⟨u, rfl, ho, hb1⟩
      have hz1 := hb1.size
      have HB1b : Hid (Below (w.heap.size + 1) (w.alloc (.cells #[.int .i64 m.size, .slice ad m.doors.length cd, .slice ak m.keys.length ck] 29)) w1) := HBo.out.trans (hb1.mono (by omega))
      have HO1 := Lib.hid ((Own.of HO.out).later hb1 (Nat.le_refl _))
      obtain ⟨e3, e1, vd, vk, rfl, o1, o2, hap⟩ := ho
      obtain ⟨g, capk, rfl, -, -⟩ := o2.row.form hkl
      obtain ⟨ad2, cd2, rfl⟩ := o1.slice
      have HD1 := Lib.hid o1
      have HAP := Lib.hid hap
      have hgb := o2.blocks g rfl
      have HK1 : Hid (Own wo.heap.size w1.heap.size w1 e1 1 (.slice (some ⟨g, 0, none⟩) m.keys.length capk) m.keys.length (ints (cutK m s 0))) := by rw [cutK_zero]; exact o2
      clear hb1 o1 o2 hap q0 q1 q2
      go_wp2
      have hbx : Below w1.heap.size w1 (w1.alloc (.cells #[.int .i64 m.size, .slice ad2 m.doors.length cd2, .slice (some ⟨g, 0, none⟩) m.keys.length capk] 29)) := (Below.refl _ _).alloc (Nat.le_refl _) _
      obtain ⟨w2, hw2⟩ : ∃ w2, w2 = w1.alloc (.cells #[.int .i64 m.size, .slice ad2 m.doors.length cd2, .slice (some ⟨g, 0, none⟩) m.keys.length capk] 29) := ⟨_, rfl⟩
      have hb2 : Below (w1.heap.size + 1) (w1.alloc (.cells #[.int .i64 m.size, .slice ad2 m.doors.length cd2, .slice (some ⟨g, 0, none⟩) m.keys.length capk] 29)) w2 := by rw [hw2]; exact Below.refl _ _
      obtain ⟨q0, q1, q2, z2⟩ := box3 hb2 (by omega)
      rw [← hw2] at hbx ⊢
      have HBX := Lib.hid hbx
      have HB2b : Hid (Below (w.heap.size + 1) (w.alloc (.cells #[.int .i64 m.size, .slice ad m.doors.length cd, .slice ak m.keys.length ck] 29)) w2) := HB1b.out.trans (hbx.mono (by omega))
      clear hw2 hbx hb2
      go_loopw [6] (fun i wr => ∃ k : Nat, k ≤ m.keys.length ∧ i = .int .i64 k ∧ Chg wo.heap.size w1.heap.size w2 wr ∧ Hid (Own wo.heap.size w1.heap.size wr e1 1 (.slice (some ⟨g, 0, none⟩) m.keys.length capk) m.keys.length (ints (cutK m s k))) ∧ Hid (Own wo.heap.size w1.heap.size wr e3 3 (.slice ad2 m.doors.length cd2) m.doors.length (c3 m.doors))) (fun i _ => m.keys.length - (intOf i).toNat)
      case atStart => exact ⟨0, Nat.zero_le _, rfl, Chg.of_below (Below.refl _ _), HK1.out.later HBX.out (Nat.le_refl _), HD1.out.later HBX.out (Nat.le_refl _)⟩
      case round =>
        obtain ⟨wi, rfl⟩ : ∃ wi : World, wi = wr := ⟨_, rfl⟩
        obtain ⟨k, hk, rfl, hch, HR, HD⟩ := hrel
        have hz2 := HBX.out.size
        have r0 : wi.cell? ⟨w1.heap.size, 0, none⟩ = some (.int .i64 m.size) := (hch.cell (p := ⟨w1.heap.size, 0, none⟩) z2 (.inr (Nat.le_refl _))).trans q0
        have r1 : wi.cell? ⟨w1.heap.size, 1, none⟩ = some (.slice ad2 m.doors.length cd2) := (hch.cell (p := ⟨w1.heap.size, 1, none⟩) z2 (.inr (Nat.le_refl _))).trans q1
        have r2 : wi.cell? ⟨w1.heap.size, 2, none⟩ = some (.slice (some ⟨g, 0, none⟩) m.keys.length capk) := (hch.cell (p := ⟨w1.heap.size, 2, none⟩) z2 (.inr (Nat.le_refl _))).trans q2
        have HCB : Hid (Below wo.heap.size w2 wi) := hch.below (Nat.le_refl _) (by omega)
        have HBi : Hid (Below (w.heap.size + 1) (w.alloc (.cells #[.int .i64 m.size, .slice ad m.doors.length cd, .slice ak m.keys.length ck] 29)) wi) := HB2b.out.trans (HCB.out.mono (by omega))
        obtain ⟨p0, p1, p2, z4⟩ := box3 HBi.out (by omega)
        have HBiw := Lib.hid (below_box HBi.out (by omega))
        have HCH := Lib.hid hch
        clear hch
        by_cases hlt : k < m.keys.length
        · have hkk : (k : Int) < (m.keys.length : Int) := by omega
          have hks : (k : Int) < m.size := by have := HNK.out; omega
          have hky := HKF.out k hlt
          have HNX := Lib.hid (cutK_next m s hlt)
          obtain ⟨b2, off2, y, rfl, HY, hbs2, e1'⟩ := (hk'.later HBiw.out).at k hlt
          rw [HY.out] at hky
          obtain ⟨yn, rfl⟩ := Int.eq_ofNat_of_zero_le hky.1
          obtain ⟨⟨u0, e0⟩, f0⟩ := own_cell HR.out.row k (by omega)
          have HNX' : Hid ((cutK m s k).set k ((yn &&& s : Nat) : Int) = cutK m s (k + 1)) := by show _ = _; have := HNX.out; rw [HY.out] at this; exact this
          have ea : bits .and .i64 (yn : Int) (s : Int) = ((yn &&& s : Nat) : Int) := i64_and yn s (by omega) (by omega)
          go_wp2
          go_region
          all_goals
            go_wp2
            go_roundw
            case rel =>
              have st := own_store1 HR.out.row k ((yn &&& s : Nat) : Int)
              rw [HNX'.out] at st
              have ht := HR.out.top
              refine ⟨k + 1, by omega, by go_num, ?_, ?_, ?_⟩
              · exact (HCH.out.trans (Chg.of_grown st.2 (fun g' hg => by cases hg; exact hgb))).trans (Chg.of_below ((Below.refl _ _).drew))
              · exact (⟨st.1, ht⟩ : Own _ _ _ _ _ _ _ _).later ((Below.refl _ _).drew) (by have := HCH.out.size; have := HBX.out.size; simp; omega)
              · exact (HD.out.grown_ne st.2 (fun g' hg e => by cases e; exact HAP.out g hg rfl)).later ((Below.refl _ _).drew) (by have := HCH.out.size; have := HBX.out.size; simp; omega)
            case measure => simp [intOf]; omega
        · obtain rfl : k = m.keys.length := by omega
          have hks : ¬ ((m.keys.length : Int) < m.size) := by have := HNK.out; omega
          have HF : Hid (MzAt wi (.agg #[.int .i64 m.size, .slice ad2 m.doors.length cd2, .slice (some ⟨g, 0, none⟩) m.keys.length capk]) (cutM m s)) := by
            refine MzOwn.mz (lo := wo.heap.size) (hi := w1.heap.size) ⟨e3, e1, _, _, rfl, HD.out, ?_, HAP.out⟩ nd (by simp [cutM]; omega)
            have hl : (cutM m s).keys.length = m.keys.length := by simp [cutM]
            rw [hl, ← cutK_full]; exact HR.out
          have HOi : Hid (wi.ownsRow (w.heap.size + 1) 4 1 (.slice aM s cM) s (bools (winsK m s))) := ((HO1.out.later HBX.out (by omega)).chg HCH.out (.inl (Nat.le_refl _))).row
          have h40 := mem_len40' (nodesN (cutM m s) 0)
          have hWB := HWB.out s
          have HWS := Lib.hid hWB
          clear hWB q0 q1 q2
          go_wp2_with fail
          refine (l2Close_c _ (cutM m s) 0 _ HF.out (HCO.out s) (by omega)).mono ?_
          rintro e w3 ⟨a3, c3, rfl, hi3, hb3⟩
          have HI3 := Lib.hid hi3
          have HB3 : Hid (Below (w.heap.size + 1) (w.alloc (.cells #[.int .i64 m.size, .slice ad m.doors.length cd, .slice ak m.keys.length ck] 29)) w3) := HBi.out.trans (hb3.mono (by omega))
          have HO3 := Lib.hid (own_below HOi.out hb3)
          clear hb3 hi3 p0 p1 p2 r0 r1 r2
          obtain ⟨p0, p1, p2, z5⟩ := box3 HB3.out (by omega)
          go_wp2_with (first | (go_at_call 74; refine (l1Has_c _ _ _ (mem (nodesN (cutM m s) 0)) _ _ rfl HI3.out (by omega)).mono ?_; rintro e w4 ⟨rfl, rfl⟩; rw [HWS.out]) | (at_builtin; refine wpList_append_own _ rfl _ _ 68 rfl (w.heap.size + 1) 4 i0 (.bool false) 1 1 Try.underlying68 ji jz0 jz1 jz2 rfl (by decide) _ _ _ rfl (HO3.out.alloc _) ⟨w3.heap.size, 0, none⟩ 1 1 [.bool (setWinB m s)] rfl rfl ?_ ?_ ?_ ?_ ?_ ?_; (exact cell_one_new _ _ _); (simp [Value.oneCell']); (unfold maxLen; omega); omega; (simp; omega); intro v' w5 hown' hgrow _))
          go_roundw
          case rel => exact ⟨s + 1, by go_num, by omega, (HB3.out.alloc (by omega) _).grown hgrow (by simp; omega) (fun g hg => own_block_lo HO3.out hg), by rw [HSN.out, bools_snoc]; exact hown'⟩
          case measure => simp [intOf]; omega
    · obtain rfl : s = 64 := by omega
      go_wp2
      go_ret
      exact ⟨_, rfl, (Own.mono (Own.of HO.out) (by omega) (Nat.le_refl _)).row, HB.out⟩
end Go.Proofs.Ytlojcgjkjinlcaa
