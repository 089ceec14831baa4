/- slices.IndexFunc and slices.DeleteFunc at a closure that writes: an invariant J over worlds, told how often it was asked. impl.canStill: whether one can still win, with a map of what is known. HopefulLocks: the program's, with its closure. -/
import Derived.Test.YtbaahghfjmkeoaaKdDel
import Derived.Test.YtbaahghfjmkeoaaKdFrsA
import Derived.Test.YtbaahghfjmkeoaaKdHope0
set_option linter.unusedVariables false
set_option linter.unusedSimpArgs false
namespace Go.Proofs.Ytbaahghfjmkeoaa
open Go.RowKit Go.KD
attribute [local go_sem] later_cell later_frozen
set_option maxHeartbeats 4000000 in
theorem indexFunc_j (F : FuncId) (fn : Func) (hf1 : Try.prog.funcs[F]? = some fn) (hf2 : (fn.name == "runtime.NumGoroutine") = false) (hf3 : fn.body.isNone = false) (caps : Array Value) (p : Int → Bool) (J : Nat → World → Prop) (lo : Nat) (a : Option Addr) (cap n : Nat) (l : List Int) (w : World) (hn : n = l.length) (hA : ∀ i W, J i W → IC W a l) (hl : n ≤ 1048576)
    (hJ0 : J 0 w) (hJs : ∀ i W W', J i W → Below W.heap.size W W' → J i W')
    (hJc : ∀ i x W, i < n → l[i]! = x → J i W → w.heap.size ≤ W.heap.size → Calls Try.prog F (#[.int .i64 x] ++ caps) W fun e W' => e = .returned (.bool (p x)) ∧ J (i + 1) W' ∧ Chg 0 lo W W') :
    Calls Try.prog 101 #[.slice a n cap, .func (.func F) #[] caps] w fun e w' => e = .returned (.int .i64 (idxP p l)) ∧ (∃ i, J i w' ∧ ∀ k : Nat, idxP p l = (k : Int) → i = k + 1) ∧ Chg 0 lo w w' := by
  have HN := Lib.hid hn
  have HJS := Lib.hid hJs
  have HJC := Lib.hid hJc
  have HJ0 := Lib.hid hJ0
  have HA := Lib.hid hA
  have hcf := run_callFunc hf1 hf2 hf3
  clear hn hJs hJc hJ0 hA hf1 hf2 hf3
  go_enter Try.func101, Try.ntmps101
  go_wp2
  go_loopw [5, 8] (fun _ i wr => ∃ k : Nat, k ≤ n ∧ i = .int .i64 k ∧ Hid (Chg 0 lo w wr) ∧ Hid (J k wr) ∧ Hid (∀ j, j < k → p l[j]! = false)) (fun _ i _ => n - (intOf i).toNat)
  case atStart => exact ⟨0, Nat.zero_le _, rfl, Chg.of_below (Below.refl _ _), HJ0.out, fun j hj => by omega⟩
  case round =>
    obtain ⟨wo, rfl⟩ : ∃ wo : World, wo = wr := ⟨_, rfl⟩
    obtain ⟨k, hk, rfl, HC, HJ, HK⟩ := hrel
    have hzw := HC.out.size
    by_cases hlt : k < n
    · have hlt' : k < l.length := by rw [← HN.out]; exact hlt
      obtain ⟨b, off, x, rfl, HX, hbs, e0⟩ := (HA.out k wo HJ.out).at k hlt'
      have hcall := HJC.out k x wo hlt HX.out HJ.out hzw
      cases hpx : p x
      · rw [hpx] at hcall
        go_wp2_with fail
        refine hcall.mono ?_
        rintro e w1 ⟨rfl, hj1, hc1⟩
        have HC1 : Hid (Chg 0 lo w w1) := HC.out.trans hc1
        have HJ1 := Lib.hid hj1
        have HPX := Lib.hid hpx
        clear hj1 hc1 hcall hpx
        go_wp2_with fail
        go_roundw
        case rel => exact ⟨k+1, by omega, by go_num, HC1, HJ1, fun j hj => by
          rcases Nat.lt_or_ge j k with h | h
          · exact HK.out j h
          · obtain rfl : j = k := by omega
            rw [HX.out]; exact HPX.out⟩
        case measure => simp [intOf]; omega
      · rw [hpx] at hcall
        go_wp2_with fail
        refine hcall.mono ?_
        rintro e w1 ⟨rfl, hj1, hc1⟩
        have HC1 : Hid (Chg 0 lo w w1) := HC.out.trans hc1
        have HJ1 := Lib.hid hj1
        have HI : Hid (idxP p l = (k : Int)) := idxP_at (by omega) HK.out (by rw [HX.out]; exact hpx)
        clear hj1 hc1 hcall hpx
        go_wp2_with fail
        go_ret
        exact ⟨ret_int (by rw [HI.out]), ⟨k + 1, HJ1.out, fun k' hk' => by rw [HI.out] at hk'; omega⟩, HC1.out⟩
    · have HI : Hid (idxP p l = -1) := idxP_none (fun j hj => HK.out j (by have := HN.out; omega))
      go_wp2
      go_ret
      exact ⟨ret_int (by rw [HI.out]), ⟨k, HJ.out, fun k' hk' => by rw [HI.out] at hk'; omega⟩, HC.out⟩
set_option maxRecDepth 100000 in
set_option maxHeartbeats 4000000 in
/-- What is kept of an owned row, where the closure writes below the row. -/
theorem deleteFunc_j (F : FuncId) (fn : Func) (hf1 : Try.prog.funcs[F]? = some fn) (hf2 : (fn.name == "runtime.NumGoroutine") = false) (hf3 : fn.body.isNone = false) (caps : Array Value) (p : Int → Bool) (J : Nat → World → Prop) (lo hi : Nat) (e : TypeId) (a : Option Addr) (cap n : Nat) (l : List Int) (w : World) (hn : n = l.length) (ho : Own lo hi w e 1 (.slice a n cap) n (ints l)) (hhi : hi ≤ w.heap.size) (hl : n ≤ 1048576)
    (hJ0 : J 0 w) (hJs : ∀ i W W', J i W → Below W.heap.size W W' → J i W') (hJd : ∀ i W W', J i W → Chg lo hi W W' → J i W')
    (hJc : ∀ i x W, i < n → l[i]! = x → J i W → w.heap.size ≤ W.heap.size → Calls Try.prog F (#[.int .i64 x] ++ caps) W fun e W' => e = .returned (.bool (p x)) ∧ J (i + 1) W' ∧ Chg 0 lo W W') :
    Calls Try.prog 62 #[.slice a n cap, .func (.func F) #[] caps] w fun ee w' => ∃ u, ee = .returned u ∧ Own lo hi w' e 1 u (keepL p l).length (ints (keepL p l)) ∧ (∃ i, J i w') ∧ w.heap.size ≤ w'.heap.size := by
  have HN := Lib.hid hn
  have HJD := Lib.hid hJd
  have HJC := Lib.hid hJc
  have hcf := run_callFunc hf1 hf2 hf3
  have HFH : Hid (Calls Try.prog 101 #[.slice a n cap, .func (.func F) #[] caps] w fun ee w' => ee = .returned (.int .i64 (idxP p l)) ∧ (∃ i, (J i w' ∧ Own lo hi w' e 1 (.slice a n cap) n (ints l)) ∧ ∀ k : Nat, idxP p l = (k : Int) → i = k + 1) ∧ Chg 0 lo w w') := by
    show Calls _ _ _ _ _
    refine indexFunc_j F fn hf1 hf2 hf3 caps p (fun i W => J i W ∧ Own lo hi W e 1 (.slice a n cap) n (ints l)) lo a cap n l _ hn (fun i W h => ic_of' h.2 hn) hl ⟨hJ0, ho⟩ (fun i W W' h hb => ⟨hJs i W W' h.1 hb, h.2.chg (Chg.of_below (lo := lo) (hi := lo) hb) (.inr (Nat.le_refl _))⟩) (fun i x W hi hx h hz => (hJc i x W hi hx h.1 hz).mono ?_)
    rintro e1 W' ⟨rfl, h1, h2⟩
    exact ⟨rfl, ⟨h1, h.2.chg h2 (.inr (Nat.le_refl _))⟩, h2⟩
  by_cases hall : ∀ j, j < l.length → p l[j]! = false
  · have HKL : Hid (keepL p l = l) := keepL_none hall
    have HI : Hid (idxP p l = -1) := idxP_none hall
    clear hf1 hf2 hf3 hcf hn ho hall hJ0 hJs hJd hJc HJD HJC
    go_enter Try.func62, Try.ntmps62
    go_wp2_with (go_at_call 101; refine HFH.out.mono ?_; rintro ee w1 ⟨rfl, ⟨i1, ⟨hj1, ho1⟩, -⟩, hc1⟩; have HO1 := Lib.hid ho1; have HJ1 := Lib.hid hj1; have hz1 := hc1.size; clear ho1 hj1 hc1; rw [HI.out])
    go_ret
    exact ⟨_, rfl, by rw [HKL.out, ← HN.out]; exact HO1.out, ⟨_, HJ1.out⟩, hz1⟩
  · obtain ⟨k0, hk0, hne, hy⟩ : ∃ k, k < l.length ∧ (∀ j, j < k → p l[j]! = false) ∧ p l[k]! = true := by
      have hex : ∃ k, k < l.length ∧ p l[k]! = true := by
        refine Classical.byContradiction fun hc => hall fun j hj => ?_
        cases hb : p l[j]!
        · rfl
        · exact absurd ⟨j, hj, hb⟩ hc
      obtain ⟨k, hk⟩ := hex
      induction k using Nat.strongRecOn with
      | _ k ih =>
        by_cases hm : ∃ j, j < k ∧ p l[j]! = true
        · obtain ⟨j, hj, hj1⟩ := hm
          exact ih j hj ⟨by omega, hj1⟩
        · refine ⟨k, hk.1, fun j hj => ?_, hk.2⟩
          cases hb : p l[j]!
          · rfl
          · exact absurd ⟨j, hj, hb⟩ hm
    have HI : Hid (idxP p l = (k0 : Int)) := idxP_at hk0 hne hy
    have HD : Hid (DelInv p l l (k0 + 1) k0) := DelInv.start hk0 hne hy
    have hkn : k0 < n := by omega
    obtain ⟨g, c', hs, hcapn, hcapm⟩ := own_someD ho.row (by omega : 0 < n)
    obtain ⟨rfl, rfl⟩ : a = some ⟨g, 0, none⟩ ∧ cap = c' := by cases hs; exact ⟨rfl, rfl⟩
    have hgl := own_block_lo ho.row (g := g) rfl
    have hgh := ho.top g rfl
    have hne1 : ((k0 : Int) == -1) = false := beq_eq_false_iff_ne.2 (by omega)
    unfold maxLen at hcapm
    obtain ⟨i0, ji, jz0, jz1, jz2⟩ := info_parts infoI
    clear hf1 hf2 hf3 hn ho hall hne hy hs hJ0 hJs hJd hJc
    go_enter Try.func62, Try.ntmps62
    go_wp2_with (go_at_call 101; refine HFH.out.mono ?_; rintro ee w1 ⟨rfl, ⟨i1, ⟨hj1, ho1⟩, hi1⟩, hc1⟩; obtain rfl := hi1 k0 HI.out; have HO1 := Lib.hid ho1; have HJ1 := Lib.hid hj1; have hz1 := hc1.size; clear ho1 hj1 hi1 hc1; rw [HI.out])
    go_loopw [5, 6] (fun u v wr => ∃ i j : Nat, ∃ dk : List Int, u = .int .i64 i ∧ v = .int .i64 j ∧ j ≤ n ∧ w.heap.size ≤ wr.heap.size ∧ Hid (DelInv p l dk j i) ∧ Hid (Own lo hi wr e 1 (.slice (some ⟨g, 0, none⟩) n cap) n (ints dk)) ∧ Hid (J j wr)) (fun _ v _ => n - (intOf v).toNat)
    case atStart => exact ⟨k0, k0 + 1, l, rfl, by go_num, by omega, hz1, HD, HO1, HJ1⟩
    case round =>
      clear HO1 HJ1 HFH
      obtain ⟨wi, rfl⟩ : ∃ wi : World, wi = wr := ⟨_, rfl⟩
      obtain ⟨i, j, dk, rfl, rfl, hj, hzi, HV, HR, HJ⟩ := hrel
      have hij := HV.out.ij
      by_cases hlt : j < n
      · have hjI : (j : Int) < (n : Int) := by omega
        have hiI : (i : Int) < (n : Int) := by omega
        have hjl : j < l.length := by have := HN.out; omega
        have hdl : dk.length = n := by have := HV.out.len; have := HN.out; omega
        have hD : dk[j]! = l[j]! := HV.out.rest j (Nat.le_refl _) hjl
        obtain ⟨x, hx⟩ : ∃ x, x = l[j]! := ⟨_, rfl⟩
        have cj := own_intK HR.out.row j hlt hdl
        rw [hD, ← hx] at cj
        have HX := Lib.hid hx
        have hcall := HJC.out j x wi hlt hx.symm HJ.out hzi
        have HDL := Lib.hid hdl
        clear hD hx hdl
        cases hq : p x with
        | false =>
          rw [hq] at hcall
          have HQ := Lib.hid hq; clear hq
          go_wp2_with fail
          refine hcall.mono ?_
          rintro e2 w2 ⟨rfl, hj2, hc2⟩
          have HR2 : Hid (Own lo hi w2 e 1 (.slice (some ⟨g, 0, none⟩) n cap) n (ints dk)) := HR.out.chg hc2 (.inr (Nat.le_refl _))
          have hz2 := hc2.size
          obtain ⟨y, hy⟩ : ∃ y, y = dk[i]! := ⟨_, rfl⟩
          have ci2 := own_intK HR2.out.row i (by omega) HDL.out
          rw [← hy] at ci2
          have fi2 := (own_cell HR2.out.row i (by omega)).2
          obtain ⟨ho3, hg3⟩ := own_store1 HR2.out.row i x
          have HR3 : Hid (Own lo hi (w2.setCell ⟨g, i, none⟩ (.int .i64 x)) e 1 (.slice (some ⟨g, 0, none⟩) n cap) n (ints (dk.set i x))) := ⟨ho3, HR2.out.top⟩
          have HJ3 : Hid (J (j + 1) (w2.setCell ⟨g, i, none⟩ (.int .i64 x))) := HJD.out _ _ _ hj2 (Chg.of_grown hg3 (fun g' hg' => by cases hg'; exact ⟨hgl, hgh⟩))
          have hz3 := hg3.size
          clear ho3 hg3 hj2 hc2 hy cj hcall
          go_wp2_with fail
          go_roundw
          case rel => exact ⟨i + 1, j + 1, dk.set i x, by go_num, by go_num, by omega, by omega, (by have := HV.out.keep hjl (by rw [← HX.out]; exact HQ.out); rw [← HX.out] at this; exact this), HR3, HJ3⟩
          case measure => simp [intOf]; omega
        | true =>
          rw [hq] at hcall
          have HQ := Lib.hid hq; clear hq
          go_wp2_with fail
          refine hcall.mono ?_
          rintro e2 w2 ⟨rfl, hj2, hc2⟩
          have HR2 : Hid (Own lo hi w2 e 1 (.slice (some ⟨g, 0, none⟩) n cap) n (ints dk)) := HR.out.chg hc2 (.inr (Nat.le_refl _))
          have hz2 := hc2.size
          have HJ3 := Lib.hid hj2
          clear hc2 hj2 cj hcall
          go_wp2_with fail
          go_roundw
          case rel => exact ⟨i, j + 1, dk, rfl, by go_num, by omega, by omega, HV.out.skip hjl (by rw [← HX.out]; exact HQ.out), HR2, HJ3⟩
          case measure => simp [intOf]; omega
      · obtain rfl : j = n := by omega
        have hdl : dk.length = j := by have := HV.out.len; have := HN.out; omega
        have hic : i < j := hij
        have hiI : (i : Int) < (j : Int) := by omega
        have hicI : (i : Int) < (cap : Int) := by omega
        have hjc : (j : Int) ≤ (cap : Int) := by omega
        obtain ⟨w3, hrun, ho3, hg3⟩ := run_clear_rest (P := Try.prog) wi 23 0 3 e i0 Try.underlying23 ji jz0 lo g j cap i dk hic hdl HR.out.row
        have HK : Hid (dk.take i = keepL p l ∧ i = (keepL p l).length) := by
          have h1 := HV.out.kept; have h2 := HV.out.il; have h3 := HN.out
          rw [h3, keepK_all] at h1 h2
          exact ⟨h1, h2⟩
        have HR3 : Hid (Own lo hi w3 e 1 (.slice (some ⟨g, 0, none⟩) i cap) i (ints (dk.take i))) := ⟨ho3, fun g' hg' => by cases hg'; exact hgh⟩
        have HJ3 : Hid (J j w3) := HJD.out _ _ _ HJ.out (Chg.of_grown hg3 (fun g' hg' => by cases hg'; exact ⟨hgl, hgh⟩))
        have hz3 := hg3.size
        clear ho3 hg3 hdl
        rw [Nat.zero_add] at hrun
        go_wp2
        go_ret
        exact ⟨_, rfl, by have := HR3.out; rw [HK.out.1] at this; rw [← HK.out.2]; exact this, ⟨_, HJ3.out⟩, by omega⟩
end Go.Proofs.Ytbaahghfjmkeoaa

namespace Go.Proofs.Ytbaahghfjmkeoaa
open Go.RowKit Go.KD Go.Maps
attribute [local go_sem] later_cell later_frozen
set_option maxRecDepth 100000 in
set_option maxHeartbeats 8000000 in
theorem canStill_c (m : Mz) (hg : goodB m = true) (ad ak : Option Addr) (cd ck : Nat) (wb : World) (hmb : MzAt wb (.agg #[.int .i64 m.size, .slice ad m.doors.length cd, .slice ak m.keys.length ck]) m) (b : Nat) (hbz : wb.heap.size ≤ b) : ∀ (f : Nat) (L : List Int) (O n : Nat) (fm : Nat → Option Bool) (w : World), Opn m L O → (locksI m).length ≤ f + L.length → Below wb.heap.size wb w → MpO Try.prog 3 4 w b n fm → Snd m fm → n + 11 ^ (f + 1) ≤ 1000000000000000 →
    Calls Try.prog 65 #[(.agg #[.int .i64 m.size, .slice ad m.doors.length cd, .slice ak m.keys.length ck]), .int .i64 (O : Nat), .map (some b)] w fun e w' => e = .returned (.bool (stillF m O)) ∧ Chg b (b + 1) w w' ∧ ∃ n' fm', MpO Try.prog 3 4 w' b n' fm' ∧ Snd m fm' ∧ n' ≤ n + 11 ^ (f + 1) := by
  intro f
  induction f using Nat.strongRecOn with
  | _ f ih =>
  intro L O n fm w hO hf hbw hM hS hn
  have HG := Lib.hid hg
  have OK := Lib.hid (good_ok hg)
  have HOP := Lib.hid hO
  have hng : m.doors.length ≤ 30 := OK.out.nd
  have hO30 : O < 1073741824 := op_lt30 (good_ok hg) (opn_ok (good_ok hg) hO)
  have hblt := hM.lt
  have HS := Lib.hid hS
  have HIH := Lib.hid ih
  have HM1 : Hid (MzAt w (.agg #[.int .i64 m.size, .slice ad m.doors.length cd, .slice ak m.keys.length ck]) m) := hmb.later hbw
  have HBW := Lib.hid hbw
  have hwbz := hbw.size
  have HMA : Hid (MpO Try.prog 3 4 (w.alloc (.cells #[.int .i64 m.size, .slice ad m.doors.length cd, .slice ak m.keys.length ck] 29)) b n fm) := hM.alloc _
  have HWB : Hid (∀ W, Chg b (b + 1) (w.alloc (.cells #[.int .i64 m.size, .slice ad m.doors.length cd, .slice ak m.keys.length ck] 29)) W → Below wb.heap.size wb W) := fun W hW => (Below.alloc HBW.out hwbz _).trans (hW.below hbz (by simp; omega))
  have HCELL : Hid (∀ W, Chg b (b + 1) (w.alloc (.cells #[.int .i64 m.size, .slice ad m.doors.length cd, .slice ak m.keys.length ck] 29)) W → W.cell? ⟨w.heap.size, 0, none⟩ = some (.int .i64 m.size) ∧ W.cell? ⟨w.heap.size, 1, none⟩ = some (.slice ad m.doors.length cd) ∧ W.cell? ⟨w.heap.size, 2, none⟩ = some (.slice ak m.keys.length ck)) := fun W hW => ⟨(hW.cell (p := ⟨w.heap.size, 0, none⟩) (by simp) (.inr hblt)).trans (by simp [go_sem]), (hW.cell (p := ⟨w.heap.size, 1, none⟩) (by simp) (.inr hblt)).trans (by simp [go_sem]), (hW.cell (p := ⟨w.heap.size, 2, none⟩) (by simp) (.inr hblt)).trans (by simp [go_sem])⟩
  obtain ⟨q, hq⟩ : ∃ q, q = 11 ^ f := ⟨_, rfl⟩
  have hq1 : 11 ^ (f + 1) = 11 * q := by rw [hq, Nat.pow_succ, Nat.mul_comm]
  have hq0 : 1 ≤ q := by rw [hq]; exact Nat.one_le_pow _ _ (by omega)
  have HQ := Lib.hid hq
  rw [hq1] at hn ⊢
  have HF := Lib.hid hf
  clear hO hS hM hf ih hbw hq hq1
  cases hfo : fm O
  case some x =>
    have HX : Hid (x = stillF m O) := HS.out O x hfo
    go_enter Try.func65, Try.ntmps65
    go_wp2_with (at_lookup; refine wpList_lookup_mpo2 _ rfl _ _ 62 rfl 3 4 Try.underlying3 Try.underlying62 Try.underlying4 (zeroBool _) b n fm rfl HMA.out O rfl hO30 ?_; rw [hfo])
    go_ret
    exact ⟨by rw [← HX.out]; rfl, Chg.of_below (by (repeat (first | exact Below.refl _ _ | apply Below.drew | apply below_drewN | (refine Below.setCell ?_ (by first | omega | (simp; done) | (simp; omega) | (dsimp only; omega)) _) | (refine Below.alloc ?_ (by first | omega | (simp; done) | (simp; omega) | (dsimp only; omega)) _)))), n, fm, HMA.out, HS.out, by omega⟩
  case none =>
    obtain ⟨nxt, hnxt⟩ : ∃ nxt, nxt = nextL m O L := ⟨_, rfl⟩
    have hnl : nxt.length ≤ 10 := by rw [hnxt]; exact Nat.le_trans (nextL_lks m O L) (good_lks hg)
    have HNXT := Lib.hid hnxt
    obtain ⟨st, hst⟩ : ∃ st, st = stJ m O L := ⟨_, rfl⟩
    have hst0 : wonB m O = st 0 := by rw [hst, stJ_0]
    have HST0 := Lib.hid hst0
    have HSTN : Hid (∀ j, j < nxt.length → st (j + 1) = (st j || stillF m (setN O nxt[j]!))) := by rw [hst, hnxt]; exact fun j hj => stJ_next m O L hj
    have HSTA : Hid (st nxt.length = stillF m O) := by rw [hst, hnxt]; exact stJ_all hg HOP.out
    clear hnxt hst hst0
    go_enter Try.func65, Try.ntmps65
    go_wp2_with (first
      | (at_lookup; refine wpList_lookup_mpo2 _ rfl _ _ 62 rfl 3 4 Try.underlying3 Try.underlying62 Try.underlying4 (zeroBool _) b n fm rfl HMA.out O rfl hO30 ?_; rw [hfo])
      | (go_at_call 61; refine (isWon_c _ m O _ (HM1.out.later (by (repeat (first | exact Below.refl _ _ | apply Below.drew | apply below_drewN | (refine Below.setCell ?_ (by first | omega | (simp; done) | (simp; omega) | (dsimp only; omega)) _) | (refine Below.alloc ?_ (by first | omega | (simp; done) | (simp; omega) | (dsimp only; omega)) _))))) OK.out hO30).mono ?_; rintro e w1 ⟨rfl, hb1⟩; have HC1 : Hid (Chg b (b + 1) (w.alloc (.cells #[.int .i64 m.size, .slice ad m.doors.length cd, .slice ak m.keys.length ck] 29)) w1) := Chg.of_below hb1; obtain ⟨q0, q1, q2⟩ := HCELL.out w1 HC1.out; have hz1 : w.heap.size + 1 ≤ w1.heap.size := (by have := HC1.out.size; simpa using this); have HMP1 : Hid (MpO Try.prog 3 4 w1 b n fm) := HMA.out.later hb1; clear hb1; rw [HST0.out])
      | (go_at_call 63; refine (nextLocks_c _ m O L _ (hmb.later (HWB.out w1 HC1.out)) OK.out (opn_ok OK.out HOP.out)).mono ?_; rintro e w2 ⟨u2, rfl, ho2, hb2⟩; rw [← HNXT.out] at ho2; obtain ⟨a2, c2, rfl⟩ := ho2.slice; have HO2 := Lib.hid ho2; have HC2 : Hid (Chg b (b + 1) (w.alloc (.cells #[.int .i64 m.size, .slice ad m.doors.length cd, .slice ak m.keys.length ck] 29)) w2) := HC1.out.trans (Chg.of_below hb2); have HMP2 : Hid (MpO Try.prog 3 4 w2 b n fm) := HMP1.out.later hb2; have hz2 := hb2.size; clear ho2 hb2 q0 q1 q2 HMP1))
    go_loopw [27, 9] (fun iv ov wr => ∃ (j n' : Nat) (fm' : Nat → Option Bool), iv = .int .i64 j ∧ ov = .bool (st j) ∧ j ≤ nxt.length ∧ w2.heap.size ≤ wr.heap.size ∧ n' ≤ n + j * q ∧ Hid (Chg b (b + 1) (w.alloc (.cells #[.int .i64 m.size, .slice ad m.doors.length cd, .slice ak m.keys.length ck] 29)) wr) ∧ Hid (MpO Try.prog 3 4 wr b n' fm') ∧ Hid (Snd m fm') ∧ Hid (Own w1.heap.size w2.heap.size wr 3 1 (.slice a2 nxt.length c2) nxt.length (ints nxt))) (fun iv _ _ => nxt.length - (intOf iv).toNat)
    case atStart => exact ⟨0, n, fm, rfl, rfl, Nat.zero_le _, Nat.le_refl _, by omega, HC2, HMP2, HS, HO2⟩
    case round =>
      clear HC1 HC2 HMP2 HO2
      obtain ⟨wi, rfl⟩ : ∃ wi : World, wi = wr := ⟨_, rfl⟩
      obtain ⟨j, n', fm', rfl, rfl, hj, hzi, hn', HC, HMP, HSN, HO⟩ := hrel
      have hjq : j * q ≤ 10 * q := Nat.mul_le_mul_right q (by omega)
      by_cases hlt : j < nxt.length
      · have hjI : (j : Int) < (nxt.length : Int) := by omega
        obtain ⟨b8, off8, xI, ha8, HX, hbs8, e8⟩ := (ic_of HO.out).at j hlt
        subst ha8
        have hmem : xI ∈ nextL m O L := by rw [← HNXT.out, ← HX.out, getElem!_pos nxt j hlt]; exact List.getElem_mem hlt
        have HMEM := Lib.hid hmem
        obtain ⟨x, rfl, hxd⟩ := next_nat (by rw [hasI_iff]; exact hmem)
        obtain ⟨p2, HP2, ep, hp2⟩ := shl_at30 x (by omega)
        have hx30 : (x : Int) < 30 := by omega
        have eo : bits .or .i64 (O : Int) (p2 : Int) = ((O ||| p2 : Nat) : Int) := i64_or O p2 (by omega) (by omega)
        have HSET : Hid (setN O (x : Int) = O ||| p2) := by show _ = _; rw [HP2.out]; simp [setN]
        have HOX : Hid (Opn m (L ++ [(x : Int)]) (O ||| p2)) := by rw [← HSET.out]; exact opn_next HOP.out hmem
        have hfpos : 1 ≤ f := by have h1 := opn_lks OK.out HOX.out; have h2 := HF.out; simp at h1; omega
        obtain ⟨f', rfl⟩ : ∃ f', f = f' + 1 := ⟨f - 1, by omega⟩
        obtain ⟨q0, q1, q2⟩ := HCELL.out wi HC.out
        have hblt2 := HMP.out.lt
        clear hmem
        cases hs : st j
        case true =>
          have HSJ : Hid (st (j + 1) = true) := by show _ = _; rw [HSTN.out j hlt, hs]; rfl
          go_upto_region 8 with fail
          go_quiet (fail)
          go_wp2
          go_roundw
          case rel => exact ⟨j + 1, n', fm', by go_num, by rw [HSJ.out], by omega, hzi, by rw [Nat.succ_mul]; omega, HC.out.trans (Chg.of_below (by (repeat (first | exact Below.refl _ _ | apply Below.drew | apply below_drewN | (refine Below.setCell ?_ (by first | omega | (simp; done) | (simp; omega) | (dsimp only; omega)) _) | (refine Below.alloc ?_ (by first | omega | (simp; done) | (simp; omega) | (dsimp only; omega)) _))))), HMP.out.later (by (repeat (first | exact Below.refl _ _ | apply Below.drew | apply below_drewN | (refine Below.setCell ?_ (by first | omega | (simp; done) | (simp; omega) | (dsimp only; omega)) _) | (refine Below.alloc ?_ (by first | omega | (simp; done) | (simp; omega) | (dsimp only; omega)) _)))), HSN, HO.out.chg (Chg.of_below (lo := w1.heap.size) (hi := w1.heap.size) (by (repeat (first | exact Below.refl _ _ | apply Below.drew | apply below_drewN | (refine Below.setCell ?_ (by first | omega | (simp; done) | (simp; omega) | (dsimp only; omega)) _) | (refine Below.alloc ?_ (by first | omega | (simp; done) | (simp; omega) | (dsimp only; omega)) _))))) (.inr (Nat.le_refl _))⟩
          case measure => simp [intOf]; omega
        case false =>
          have HSJ : Hid (st (j + 1) = stillF m (O ||| p2)) := by show _ = _; rw [HSTN.out j hlt, hs, HX.out, HSET.out]; rfl
          have hnq : n' + 11 ^ (f' + 1) ≤ 1000000000000000 := by rw [← HQ.out]; omega
          clear hs
          go_upto_region 8 with fail
          go_region_held3 (fun W => W.cell? ⟨w.heap.size, 0, none⟩ = some (.int .i64 m.size) ∧ W.cell? ⟨w.heap.size, 1, none⟩ = some (.slice ad m.doors.length cd) ∧ W.cell? ⟨w.heap.size, 2, none⟩ = some (.slice ak m.keys.length ck))
            (first | exact ⟨q0, q1, q2⟩ | exact HCELL.out _ HC5.out)
            ((go_at_call 65; refine (HIH.out f' (by omega) (L ++ [(x : Int)]) (O ||| p2) n' fm' _ HOX.out (by have := HF.out; simp; omega) (HWB.out _ (HC.out.trans (Chg.of_below (by (repeat (first | exact Below.refl _ _ | apply Below.drew | apply below_drewN | (refine Below.setCell ?_ (by first | omega | (simp; done) | (simp; omega) | (dsimp only; omega)) _) | (refine Below.alloc ?_ (by first | omega | (simp; done) | (simp; omega) | (dsimp only; omega)) _))))))) (HMP.out.later (by (repeat (first | exact Below.refl _ _ | apply Below.drew | apply below_drewN | (refine Below.setCell ?_ (by first | omega | (simp; done) | (simp; omega) | (dsimp only; omega)) _) | (refine Below.alloc ?_ (by first | omega | (simp; done) | (simp; omega) | (dsimp only; omega)) _))))) HSN.out hnq).mono ?_; rintro e w5 ⟨rfl, hc5, n5, fm5, hm5, hs5, hn5⟩; have HC45 : Hid (Chg b (b + 1) wi w5) := Chg.trans (Chg.of_below (by (repeat (first | exact Below.refl _ _ | apply Below.drew | apply below_drewN | (refine Below.setCell ?_ (by first | omega | (simp; done) | (simp; omega) | (dsimp only; omega)) _) | (refine Below.alloc ?_ (by first | omega | (simp; done) | (simp; omega) | (dsimp only; omega)) _))))) hc5; have HC5 : Hid (Chg b (b + 1) (w.alloc (.cells #[.int .i64 m.size, .slice ad m.doors.length cd, .slice ak m.keys.length ck] 29)) w5) := HC.out.trans HC45.out))
          have HM5 := Lib.hid hm5
          have HS5 := Lib.hid hs5
          have HO5 : Hid (Own w1.heap.size w2.heap.size w5 3 1 (.slice (some ⟨b8, off8, none⟩) nxt.length c2) nxt.length (ints nxt)) := HO.out.chg HC45.out (.inr (by omega))
          have hz5 := HC45.out.size
          rw [← HQ.out] at hn5
          clear hc5 hm5 hs5
          go_wp2
          go_roundw
          case rel => exact ⟨j + 1, n5, fm5, by go_num, by rw [HSJ.out], by omega, by omega, by rw [Nat.succ_mul]; omega, HC5, HM5, HS5, HO5⟩
          case measure => simp [intOf]; omega
      · obtain rfl : j = nxt.length := by omega
        have hnm : n' < maxLen := by unfold maxLen; omega
        go_wp2_with (at_mapUpdate; refine wpList_store_mpo _ rfl _ _ _ 62 (.inl rfl) 3 4 Try.underlying3 Try.underlying62 Try.underlying4 b n' fm' rfl HMP.out hnm O (st nxt.length) rfl rfl hO30 ?_; intro w6 hm6 hg6; have HM6 := Lib.hid hm6; have HC6 : Hid (Chg b (b + 1) wi w6) := (Chg.of_grown hg6 (fun g hgg => (by cases hgg; omega))); clear hm6 hg6; rw [HSTA.out] at *)
        go_ret
        exact ⟨rfl, (Chg.of_below ((Below.refl w.heap.size w).alloc (Nat.le_refl _) _)).trans (HC.out.trans HC6.out), _, _, HM6.out, HSN.out.put O, by omega⟩
end Go.Proofs.Ytbaahghfjmkeoaa

namespace Go.Proofs.Ytbaahghfjmkeoaa
open Go.RowKit Go.KD Go.Maps
attribute [local go_sem] later_cell later_frozen
set_option maxHeartbeats 4000000 in
theorem hopeClo_c (m : Mz) (hg : goodB m = true) (ad ak : Option Addr) (cd ck : Nat) (wb : World) (hmb : MzAt wb (.agg #[.int .i64 m.size, .slice ad m.doors.length cd, .slice ak m.keys.length ck]) m) (b : Nat) (hbz : wb.heap.size ≤ b) (L : List Int) (O x z zo zk n : Nat) (fm : Nat → Option Bool) (W : World) (hO : Opn m L O) (hx : (x : Int) ∈ nextL m O L) (hbw : Below wb.heap.size wb W) (hM : MpO Try.prog 3 4 W b n fm) (hS : Snd m fm) (hn : n + 11 ^ 11 ≤ 1000000000000000) (hzz : z < wb.heap.size) (hzo : zo < wb.heap.size) (hzk : b < zk) (hzk2 : zk < W.heap.size)
    (q0 : W.cell? ⟨z, 0, none⟩ = some (.int .i64 m.size)) (q1 : W.cell? ⟨z, 1, none⟩ = some (.slice ad m.doors.length cd)) (q2 : W.cell? ⟨z, 2, none⟩ = some (.slice ak m.keys.length ck)) (q3 : W.cell? ⟨zo, 0, none⟩ = some (.int .i64 (O : Nat))) (q4 : W.cell? ⟨zk, 0, none⟩ = some (.map (some b))) :
    Calls Try.prog 64 #[.int .i64 (x : Nat), .pointer (some ⟨z, 0, none⟩), .pointer (some ⟨zo, 0, none⟩), .pointer (some ⟨zk, 0, none⟩)] W fun e w' => e = .returned (.bool (!stillF m (setN O x))) ∧ Chg b (b + 1) W w' ∧ ∃ n' fm', MpO Try.prog 3 4 w' b n' fm' ∧ Snd m fm' ∧ n' ≤ n + 11 ^ 11 := by
  have OK := Lib.hid (good_ok hg)
  have hng : m.doors.length ≤ 30 := OK.out.nd
  have hO30 : O < 1073741824 := op_lt30 (good_ok hg) (opn_ok (good_ok hg) hO)
  obtain ⟨x', hx', hxd⟩ := next_nat (by rw [hasI_iff]; exact hx)
  obtain rfl : x = x' := by omega
  obtain ⟨p2, HP2, ep, hp2⟩ := shl_at30 x (by omega)
  have hx30 : (x : Int) < 30 := by omega
  have eo : bits .or .i64 (O : Int) (p2 : Int) = ((O ||| p2 : Nat) : Int) := i64_or O p2 (by omega) (by omega)
  have HSET : Hid (setN O (x : Int) = O ||| p2) := by show _ = _; rw [HP2.out]; simp [setN]
  have HOX : Hid (Opn m (L ++ [(x : Int)]) (O ||| p2)) := by rw [← HSET.out]; exact opn_next hO hx
  have HLK : Hid ((locksI m).length ≤ 10 + (L ++ [(x : Int)]).length) := by have := good_lks hg; show _ ≤ _; omega
  have HM := Lib.hid hM
  have HS := Lib.hid hS
  have HN := Lib.hid hn
  have HBW := Lib.hid hbw
  have hbz0 := hbw.size
  have hzW : z < W.heap.size := by omega
  have hzoW : zo < W.heap.size := by omega
  have hzb : z < b := by omega
  have hzob : zo < b := by omega
  clear hM hS hn hO hx hx' hbw
  go_enter Try.func64, Try.ntmps64
  go_wp2
  go_region_held3 (fun W' => W'.cell? ⟨z, 0, none⟩ = some (.int .i64 m.size) ∧ W'.cell? ⟨z, 1, none⟩ = some (.slice ad m.doors.length cd) ∧ W'.cell? ⟨z, 2, none⟩ = some (.slice ak m.keys.length ck) ∧ W'.cell? ⟨zo, 0, none⟩ = some (.int .i64 (O : Nat)) ∧ W'.cell? ⟨zk, 0, none⟩ = some (.map (some b)))
    (first | exact ⟨q0, q1, q2, q3, q4⟩ | exact ⟨(HC5.out.cell (p := ⟨z, 0, none⟩) hzW (.inl hzb)).trans q0, (HC5.out.cell (p := ⟨z, 1, none⟩) hzW (.inl hzb)).trans q1, (HC5.out.cell (p := ⟨z, 2, none⟩) hzW (.inl hzb)).trans q2, (HC5.out.cell (p := ⟨zo, 0, none⟩) hzoW (.inl hzob)).trans q3, (HC5.out.cell (p := ⟨zk, 0, none⟩) hzk2 (.inr hzk)).trans q4⟩)
    ((go_at_call 65; refine (canStill_c m hg ad ak cd ck wb hmb b hbz 10 (L ++ [(x : Int)]) (O ||| p2) n fm _ HOX.out HLK.out (HBW.out.trans (Below.mono (B := W.heap.size) (by (repeat (first | exact Below.refl _ _ | apply Below.drew | apply below_drewN | (refine Below.setCell ?_ (by first | omega | (simp; done) | (simp; omega) | (dsimp only; omega)) _) | (refine Below.alloc ?_ (by first | omega | (simp; done) | (simp; omega) | (dsimp only; omega)) _)))) HBW.out.size)) (HM.out.later (by (repeat (first | exact Below.refl _ _ | apply Below.drew | apply below_drewN | (refine Below.setCell ?_ (by first | omega | (simp; done) | (simp; omega) | (dsimp only; omega)) _) | (refine Below.alloc ?_ (by first | omega | (simp; done) | (simp; omega) | (dsimp only; omega)) _))))) HS.out HN.out).mono ?_; rintro e w5 ⟨rfl, hc5, n5, fm5, hm5, hs5, hn5⟩; have HC5 : Hid (Chg b (b + 1) W w5) := Chg.trans (Chg.of_below (by (repeat (first | exact Below.refl _ _ | apply Below.drew | apply below_drewN | (refine Below.setCell ?_ (by first | omega | (simp; done) | (simp; omega) | (dsimp only; omega)) _) | (refine Below.alloc ?_ (by first | omega | (simp; done) | (simp; omega) | (dsimp only; omega)) _))))) hc5))
  go_wp2
  go_ret
  exact ⟨by rw [HSET.out]; rfl, HC5.out, n5, fm5, hm5, hs5, hn5⟩
/-- What holds while the closure is asked. -/
def HopJ (m : Mz) (wB : World) (i : Nat) (W : World) : Prop := Below wB.heap.size wB W ∧ wB.heap.size + 2 ≤ W.heap.size ∧ W.cell? ⟨wB.heap.size + 1, 0, none⟩ = some (.map (some wB.heap.size)) ∧ ∃ n fm, MpO Try.prog 3 4 W wB.heap.size n fm ∧ Snd m fm ∧ n ≤ i * 11 ^ 11
set_option maxHeartbeats 4000000 in
theorem implHopefulLocks_c (v : Value) (m : Mz) (aL : Option Addr) (cL : Nat) (L : List Int) (w : World) (R : List Int) (b : Bool) (hp : pHopefulLocks m L = (R, b)) (hm : MzAt w v m) (hL : IC w aL L) (hLl : L.length ≤ 1048576) (wl : ∀ y ∈ L, wfI y) : Calls Try.prog 11 #[v, .slice aL L.length cL] w fun e w' =>
    ∃ u, e = .returned (.tuple #[u, .bool b]) ∧ w'.ownsRow w.heap.size 3 1 u R.length (ints R) ∧ Below w.heap.size w w' := by
  have hM := hm
  obtain ⟨⟨ad, cd, ak, ck, rfl, hd, hk'⟩, nd, nk⟩ := hM
  clear wl
  cases b1 : askOB m L
  · simp only [pHopefulLocks, b1] at hp
    cases hp
    go_enter Try.func11, Try.ntmps11
    go_wp2_with (go_at_call 60; refine (openingOf_c _ m _ _ L _ (hm.later (by (repeat (first | exact Below.refl _ _ | apply Below.drew | apply below_drewN | (refine Below.setCell ?_ (by first | omega | (simp; done) | (simp; omega) | (dsimp only; omega)) _) | (refine Below.alloc ?_ (by first | omega | (simp; done) | (simp; omega) | (dsimp only; omega)) _))))) (hL.later (by (repeat (first | exact Below.refl _ _ | apply Below.drew | apply below_drewN | (refine Below.setCell ?_ (by first | omega | (simp; done) | (simp; omega) | (dsimp only; omega)) _) | (refine Below.alloc ?_ (by first | omega | (simp; done) | (simp; omega) | (dsimp only; omega)) _))))) hLl).mono ?_; rintro e w1 ⟨⟨O, rfl, HO⟩, hb1⟩; obtain ⟨hc1, hf1, hz1⟩ := bcell3 hb1; have HB1 : Hid (Below w.heap.size w w1) := below_then (by (repeat (first | exact Below.refl _ _ | apply Below.drew | apply below_drewN | (refine Below.setCell ?_ (by first | omega | (simp; done) | (simp; omega) | (dsimp only; omega)) _) | (refine Below.alloc ?_ (by first | omega | (simp; done) | (simp; omega) | (dsimp only; omega)) _)))) hb1; have HC1 : Hid (w1.cell? ⟨w.heap.size, 0, none⟩ = some (.int .i64 m.size) ∧ w1.cell? ⟨w.heap.size, 1, none⟩ = some (.slice ad m.doors.length cd) ∧ w1.cell? ⟨w.heap.size, 2, none⟩ = some (.slice ak m.keys.length ck) ∧ w.heap.size < w1.heap.size) := (by refine ⟨?_, ?_, ?_, ?_⟩ <;> first | (simp [*, go_sem]; done) | (simp at hz1; omega)); simp only [b1]; clear HO)
    have HBF := Lib.hid (HB1.out.alloc HB1.out.size (.cells #[.int .i64 (O : Nat)] 3))
    go_ret2
    exact ⟨_, rfl, ⟨rfl, .inl ⟨rfl, rfl⟩⟩, by first | exact HBF.out | exact below_then HB1.out (by (repeat (first | exact Below.refl _ _ | apply Below.drew | apply below_drewN | (refine Below.setCell ?_ (by first | omega | (simp; done) | (simp; omega) | (dsimp only; omega)) _) | (refine Below.alloc ?_ (by first | omega | (simp; done) | (simp; omega) | (dsimp only; omega)) _))))⟩
  · have b2 : goodB m = true ∧ opsB m L = true := by simpa [askOB] using b1
    have HG := Lib.hid b2.1
    have OK := Lib.hid (good_ok b2.1)
    have HOPN : Hid (Opn m L (opN m L)) := opn_of b2.2
    have HOP := Lib.hid (ops_ok OK.out b2.2)
    have HB1' := Lib.hid b1
    have hO30 : opN m L < 1073741824 := op_lt30 OK.out HOP.out
    clear b2
    cases b3 : wonB m (opN m L)
    case true =>
      have : pHopefulLocks m L = ([], false) := by simp [pHopefulLocks, b3]
      rw [this] at hp
      cases hp
      go_enter Try.func11, Try.ntmps11
      go_wp2_with (first
        | (go_at_call 60; refine (openingOf_c _ m _ _ L _ (hm.later (by (repeat (first | exact Below.refl _ _ | apply Below.drew | apply below_drewN | (refine Below.setCell ?_ (by first | omega | (simp; done) | (simp; omega) | (dsimp only; omega)) _) | (refine Below.alloc ?_ (by first | omega | (simp; done) | (simp; omega) | (dsimp only; omega)) _))))) (hL.later (by (repeat (first | exact Below.refl _ _ | apply Below.drew | apply below_drewN | (refine Below.setCell ?_ (by first | omega | (simp; done) | (simp; omega) | (dsimp only; omega)) _) | (refine Below.alloc ?_ (by first | omega | (simp; done) | (simp; omega) | (dsimp only; omega)) _))))) hLl).mono ?_; rintro e w1 ⟨⟨O, rfl, HO⟩, hb1⟩; obtain ⟨hc1, hf1, hz1⟩ := bcell3 hb1; have HB1 : Hid (Below w.heap.size w w1) := below_then (by (repeat (first | exact Below.refl _ _ | apply Below.drew | apply below_drewN | (refine Below.setCell ?_ (by first | omega | (simp; done) | (simp; omega) | (dsimp only; omega)) _) | (refine Below.alloc ?_ (by first | omega | (simp; done) | (simp; omega) | (dsimp only; omega)) _)))) hb1; have HC1 : Hid (w1.cell? ⟨w.heap.size, 0, none⟩ = some (.int .i64 m.size) ∧ w1.cell? ⟨w.heap.size, 1, none⟩ = some (.slice ad m.doors.length cd) ∧ w1.cell? ⟨w.heap.size, 2, none⟩ = some (.slice ak m.keys.length ck) ∧ w.heap.size < w1.heap.size) := (by refine ⟨?_, ?_, ?_, ?_⟩ <;> first | (simp [*, go_sem]; done) | (simp at hz1; omega)); simp only [b1]; have hOe := HO.out HB1'.out; subst hOe; clear HO; obtain ⟨p0, p1, p2, pz⟩ := HC1.out; have a0 := (World.cell?_alloc_lt w1 (.cells #[.int .i64 (opN m L : Nat)] 3) ⟨w.heap.size, 0, none⟩ pz).trans p0; have a1 := (World.cell?_alloc_lt w1 (.cells #[.int .i64 (opN m L : Nat)] 3) ⟨w.heap.size, 1, none⟩ pz).trans p1; have a2 := (World.cell?_alloc_lt w1 (.cells #[.int .i64 (opN m L : Nat)] 3) ⟨w.heap.size, 2, none⟩ pz).trans p2)
        | (go_at_call 61; refine (isWon_c _ m (opN m L) _ (hm.later (HB1.out.trans (Below.mono (B := w1.heap.size) (by (repeat (first | exact Below.refl _ _ | apply Below.drew | apply below_drewN | (refine Below.setCell ?_ (by first | omega | (simp; done) | (simp; omega) | (dsimp only; omega)) _) | (refine Below.alloc ?_ (by first | omega | (simp; done) | (simp; omega) | (dsimp only; omega)) _)))) HB1.out.size))) OK.out hO30).mono ?_; rintro e w2 ⟨rfl, hb2⟩; have HB2 : Hid (Below w1.heap.size w1 w2) := below_then (by (repeat (first | exact Below.refl _ _ | apply Below.drew | apply below_drewN | (refine Below.setCell ?_ (by first | omega | (simp; done) | (simp; omega) | (dsimp only; omega)) _) | (refine Below.alloc ?_ (by first | omega | (simp; done) | (simp; omega) | (dsimp only; omega)) _)))) hb2; simp only [b3]))
      go_ret2
      exact ⟨_, rfl, ⟨rfl, .inl ⟨rfl, rfl⟩⟩, below_then HB1.out HB2.out⟩
    case false =>
      have : pHopefulLocks m L = (hopeL m (opN m L) L, true) := by simp [pHopefulLocks, b1, b3]
      rw [this] at hp
      simp only [Prod.mk.injEq] at hp
      obtain ⟨hR, rfl⟩ := hp
      have HR := Lib.hid hR
      obtain ⟨nxt, hnxt⟩ : ∃ nxt, nxt = nextL m (opN m L) L := ⟨_, rfl⟩
      have hnl : nxt.length ≤ 10 := by rw [hnxt]; exact Nat.le_trans (nextL_lks m _ L) (good_lks HG.out)
      have HNXT := Lib.hid hnxt
      clear hnxt this hR
      go_enter Try.func11, Try.ntmps11
      go_upto_region 4 with (first
        | (go_at_call 60; refine (openingOf_c _ m _ _ L _ (hm.later (by (repeat (first | exact Below.refl _ _ | apply Below.drew | apply below_drewN | (refine Below.setCell ?_ (by first | omega | (simp; done) | (simp; omega) | (dsimp only; omega)) _) | (refine Below.alloc ?_ (by first | omega | (simp; done) | (simp; omega) | (dsimp only; omega)) _))))) (hL.later (by (repeat (first | exact Below.refl _ _ | apply Below.drew | apply below_drewN | (refine Below.setCell ?_ (by first | omega | (simp; done) | (simp; omega) | (dsimp only; omega)) _) | (refine Below.alloc ?_ (by first | omega | (simp; done) | (simp; omega) | (dsimp only; omega)) _))))) hLl).mono ?_; rintro e w1 ⟨⟨O, rfl, HO⟩, hb1⟩; obtain ⟨hc1, hf1, hz1⟩ := bcell3 hb1; have HB1 : Hid (Below w.heap.size w w1) := below_then (by (repeat (first | exact Below.refl _ _ | apply Below.drew | apply below_drewN | (refine Below.setCell ?_ (by first | omega | (simp; done) | (simp; omega) | (dsimp only; omega)) _) | (refine Below.alloc ?_ (by first | omega | (simp; done) | (simp; omega) | (dsimp only; omega)) _)))) hb1; have HC1 : Hid (w1.cell? ⟨w.heap.size, 0, none⟩ = some (.int .i64 m.size) ∧ w1.cell? ⟨w.heap.size, 1, none⟩ = some (.slice ad m.doors.length cd) ∧ w1.cell? ⟨w.heap.size, 2, none⟩ = some (.slice ak m.keys.length ck) ∧ w.heap.size < w1.heap.size) := (by refine ⟨?_, ?_, ?_, ?_⟩ <;> first | (simp [*, go_sem]; done) | (simp at hz1; omega)); simp only [b1]; have hOe := HO.out HB1'.out; subst hOe; clear HO; obtain ⟨p0, p1, p2, pz⟩ := HC1.out; have a0 := (World.cell?_alloc_lt w1 (.cells #[.int .i64 (opN m L : Nat)] 3) ⟨w.heap.size, 0, none⟩ pz).trans p0; have a1 := (World.cell?_alloc_lt w1 (.cells #[.int .i64 (opN m L : Nat)] 3) ⟨w.heap.size, 1, none⟩ pz).trans p1; have a2 := (World.cell?_alloc_lt w1 (.cells #[.int .i64 (opN m L : Nat)] 3) ⟨w.heap.size, 2, none⟩ pz).trans p2)
        | (go_at_call 61; refine (isWon_c _ m (opN m L) _ (hm.later (HB1.out.trans (Below.mono (B := w1.heap.size) (by (repeat (first | exact Below.refl _ _ | apply Below.drew | apply below_drewN | (refine Below.setCell ?_ (by first | omega | (simp; done) | (simp; omega) | (dsimp only; omega)) _) | (refine Below.alloc ?_ (by first | omega | (simp; done) | (simp; omega) | (dsimp only; omega)) _)))) HB1.out.size))) OK.out hO30).mono ?_; rintro e w2 ⟨rfl, hb2⟩; have HB2 : Hid (Below w1.heap.size w1 w2) := below_then (by (repeat (first | exact Below.refl _ _ | apply Below.drew | apply below_drewN | (refine Below.setCell ?_ (by first | omega | (simp; done) | (simp; omega) | (dsimp only; omega)) _) | (refine Below.alloc ?_ (by first | omega | (simp; done) | (simp; omega) | (dsimp only; omega)) _)))) hb2; obtain ⟨hc2, hf2, hz2⟩ := bcell3 hb2; have HC2 : Hid (w2.cell? ⟨w1.heap.size, 0, none⟩ = some (.int .i64 (opN m L : Nat)) ∧ w1.heap.size < w2.heap.size) := (by refine ⟨?_, ?_⟩ <;> first | (simp [*, go_sem]; done) | (simp at hz2; omega)); simp only [b3]))
      obtain ⟨p3, pz3⟩ := HC2.out
      have HD : Hid (∀ W, Below w2.heap.size w2 W → Below w.heap.size w W ∧ W.cell? ⟨w.heap.size, 0, none⟩ = some (.int .i64 m.size) ∧ W.cell? ⟨w.heap.size, 1, none⟩ = some (.slice ad m.doors.length cd) ∧ W.cell? ⟨w.heap.size, 2, none⟩ = some (.slice ak m.keys.length ck) ∧ W.cell? ⟨w1.heap.size, 0, none⟩ = some (.int .i64 (opN m L : Nat))) := fun W hW => by
        have h1 : Below w1.heap.size w1 W := below_then HB2.out hW
        exact ⟨below_then HB1.out h1, (h1.cell (p := ⟨w.heap.size, 0, none⟩) pz).trans p0, (h1.cell (p := ⟨w.heap.size, 1, none⟩) pz).trans p1, (h1.cell (p := ⟨w.heap.size, 2, none⟩) pz).trans p2, (hW.cell (p := ⟨w1.heap.size, 0, none⟩) pz3).trans p3⟩
      have hmm := @run_makeMap Try.prog
      obtain ⟨r0, r1, r2, r3, r4⟩ := HD.out (w2.alloc (.map #[] 0)) ((Below.refl _ _).alloc (Nat.le_refl _) _)
      have HMB : Hid (MzAt w2 (.agg #[.int .i64 m.size, .slice ad m.doors.length cd, .slice ak m.keys.length ck]) m) := hm.later (HD.out w2 (Below.refl _ _)).1
      have HJ0 : Hid (HopJ m w2 0 ((w2.alloc (.map #[] 0)).alloc (.cells #[.map (some w2.heap.size)] 62))) := ⟨((Below.refl _ _).alloc (Nat.le_refl _) _).alloc (by simp) _, by simp, by simp [go_sem], 0, _, (MpO.made w2 Try.prog 3 4).alloc _, Snd.none m, Nat.zero_le _⟩
      have hzm : (w2.alloc (.map #[] 0)).heap.size = w2.heap.size + 1 := by simp
      obtain ⟨t0, t1, t2, t3, t4⟩ := HD.out ((w2.alloc (.map #[] 0)).alloc (.cells #[.map (some w2.heap.size)] 62)) (((Below.refl _ _).alloc (Nat.le_refl _) _).alloc (by simp) _)
      clear hc1 hf1 hz1 hb1 p0 p1 p2 p3 hc2 hf2 hz2 hb2
      go_wp2_with (go_at_call 63; refine (nextLocks_c _ m (opN m L) L _ (hm.later t0) OK.out HOP.out).mono ?_; rintro e w5 ⟨u5, rfl, ho5, hb5⟩; rw [← HNXT.out] at ho5; obtain ⟨a5, c5, rfl⟩ := ho5.slice; have HO5 := Lib.hid ho5; clear ho5)
      have HJS : Hid (∀ i W W', HopJ m w2 i W → Below W.heap.size W W' → HopJ m w2 i W') := fun i W W' ⟨h1, h2, h3, n, fm, h4, h5, h6⟩ hb => ⟨below_then h1 hb, by have := hb.size; omega, (hb.cell (p := ⟨w2.heap.size + 1, 0, none⟩) (by show w2.heap.size + 1 < _; omega)).trans h3, n, fm, h4.later hb, h5, h6⟩
      have hz5 : w2.heap.size + 2 ≤ w5.heap.size := by have := hb5.size; simpa using this
      have hJ5 : HopJ m w2 0 w5 := HJS.out 0 _ _ HJ0.out hb5
      refine (deleteFunc_j 64 Try.f64 Try.func64 (by kernel_rfl) rfl #[.pointer (some ⟨w.heap.size, 0, none⟩), .pointer (some ⟨w1.heap.size, 0, none⟩), .pointer (some ⟨w2.heap.size + 1, 0, none⟩)] (fun k => !stillF m (setN (opN m L) k)) (HopJ m w2) _ _ _ _ _ _ nxt _ rfl HO5.out (Nat.le_refl _) (by omega) hJ5 HJS.out ?_ ?_).mono ?_
      · rintro i W W' ⟨h1, h2, h3, n, fm, h4, h5, h6⟩ hc
        have hz := hc.size
        refine ⟨h1.trans (hc.below (by simp; omega) (by omega)), by omega, (hc.cell (p := ⟨w2.heap.size + 1, 0, none⟩) (by show w2.heap.size + 1 < _; omega) (.inl (by simp))).trans h3, n, fm, h4.keep (hc.block _ (by omega) (.inl (by simp; omega))), h5, h6⟩
      · rintro i x W hi hx ⟨h1, h2, h3, n, fm, h4, h5, h6⟩ hz
        have hmem : x ∈ nextL m (opN m L) L := by rw [← HNXT.out, ← hx, getElem!_pos nxt i hi]; exact List.getElem_mem hi
        obtain ⟨xn, rfl, -⟩ := next_nat (by rw [hasI_iff]; exact hmem)
        obtain ⟨-, s1, s2, s3, s4⟩ := HD.out W h1
        have hi10 : i ≤ 10 := by omega
        have hnq := Nat.mul_le_mul_right (11 ^ 11) hi10
        have hnb : n + 11 ^ 11 ≤ 1000000000000000 := by omega
        refine (hopeClo_c m HG.out ad ak cd ck w2 HMB.out w2.heap.size (Nat.le_refl _) L (opN m L) xn w.heap.size w1.heap.size (w2.heap.size + 1) n fm W HOPN.out hmem h1 h4 h5 hnb (by omega) (by omega) (by omega) (by omega) s1 s2 s3 s4 h3).mono ?_
        rintro e W' ⟨rfl, hc, n', fm', k1, k2, k3⟩
        have hz' := hc.size
        refine ⟨rfl, ⟨h1.trans (hc.below (Nat.le_refl _) (by omega)), by omega, (hc.cell (p := ⟨w2.heap.size + 1, 0, none⟩) (by show w2.heap.size + 1 < _; omega) (.inr (Nat.le_refl _))).trans h3, n', fm', k1, k2, by rw [Nat.succ_mul]; omega⟩, ⟨hc.os, hc.tape, hc.output, hc.size, fun k hk hd => hc.block k hk (.inr (by simp at hd; omega))⟩⟩
      · rintro e w6 ⟨u6, rfl, ho6, ⟨i6, hj6⟩, hz6⟩
        have HO6 := Lib.hid ho6
        have HB6 : Hid (Below w.heap.size w w6) := (HD.out w6 hj6.1).1
        clear ho6 hj6
        go_wp2
        go_ret2
        have hzw := HB1.out.size
        have hzw2 := HB2.out.size
        exact ⟨_, rfl, by rw [← HR.out]; unfold hopeL; rw [← HNXT.out]; exact (HO6.out.mono (by simp; omega) (Nat.le_refl _)).row, HB6.out⟩
end Go.Proofs.Ytbaahghfjmkeoaa
