/- slices.IndexFunc and slices.DeleteFunc at a closure that writes: an invariant J over worlds, told how often it was asked. impl.canStill: whether one can still win, with a map of what is known. HopefulLocks: the program's, with its closure. What the laws ask of the search: plain words. The program's functions that ask the search. More of the program's functions that ask the search. -/
import Derived.Test.YtcjcgcgcloanpaaKps7
import Derived.Test.YtcjcgcgcloanpaaKps9
import Derived.Test.YtcjcgcgcloanpaaKps8
set_option linter.unusedVariables false
set_option linter.unusedSimpArgs false
namespace Go.Proofs.Ytcjcgcgcloanpaa
open Go.RowKit Go.KD
attribute [local go_sem] later_cell later_frozen
set_option maxHeartbeats 4000000 in
theorem indexFunc_j (F : FuncId) (fn : Func) (hf1 : Try.prog.funcs[F]? = some fn) (hf2 : (fn.name == "runtime.NumGoroutine") = false) (hf3 : fn.body.isNone = false) (caps : Array Value) (p : Int → Bool) (J : Nat → World → Prop) (lo : Nat) (a : Option Addr) (cap n : Nat) (l : List Int) (w : World) (hn : n = l.length) (hA : ∀ i W, J i W → IC W a l) (hl : n ≤ 1048576)
    (hJ0 : J 0 w) (hJs : ∀ i W W', J i W → Below W.heap.size W W' → J i W')
    (hJc : ∀ i x W, i < n → l[i]! = x → J i W → w.heap.size ≤ W.heap.size → Calls Try.prog F (#[.int .i64 x] ++ caps) W fun e W' => e = .returned (.bool (p x)) ∧ J (i + 1) W' ∧ Chg 0 lo W W') :
    Calls Try.prog 153 #[.slice a n cap, .func (.func F) #[] caps] w fun e w' => e = .returned (.int .i64 (idxP p l)) ∧ (∃ i, J i w' ∧ ∀ k : Nat, idxP p l = (k : Int) → i = k + 1) ∧ Chg 0 lo w w' := by
  have HN := Lib.hid hn
  have HJS := Lib.hid hJs
  have HJC := Lib.hid hJc
  have HJ0 := Lib.hid hJ0
  have HA := Lib.hid hA
  have hcf := run_callFunc hf1 hf2 hf3
  clear hn hJs hJc hJ0 hA hf1 hf2 hf3
  go_enter Try.func153, Try.ntmps153
  go_wp2
  go_loopw [5, 8] (fun _ i wr => ∃ k : Nat, k ≤ n ∧ i = .int .i64 k ∧ Hid (Chg 0 lo w wr) ∧ Hid (J k wr) ∧ Hid (∀ j, j < k → p l[j]! = false)) (fun _ i _ => n - (intOf i).toNat)
  case atStart => exact ⟨0, Nat.zero_le _, rfl, Chg.of_below (Below.refl _ _), HJ0.out, fun j hj => by omega⟩
  case round =>
    obtain ⟨wo, rfl⟩ : ∃ wo : World, wo = wr := ⟨_, rfl⟩
    obtain ⟨k, hk, rfl, HC, HJ, HK⟩ := hrel
    have hzw := HC.out.size
    by_cases hlt : k < n
    · have hlt' : k < l.length := by rw [← HN.out]; exact hlt
      obtain ⟨b, off, x, rfl, HX, hbs, e0⟩ := (HA.out k wo HJ.out).at k hlt'
      have hcall := HJC.out k x wo hlt HX.out HJ.out hzw
      cases hpx : p x
      · rw [hpx] at hcall
        go_wp2_with fail
        refine hcall.mono ?_
        rintro e w1 ⟨rfl, hj1, hc1⟩
        have HC1 : Hid (Chg 0 lo w w1) := HC.out.trans hc1
        have HJ1 := Lib.hid hj1
        have HPX := Lib.hid hpx
        clear hj1 hc1 hcall hpx
        go_wp2_with fail
        go_roundw
        case rel => exact ⟨k+1, by omega, by go_num, HC1, HJ1, fun j hj => by
          rcases Nat.lt_or_ge j k with h | h
          · exact HK.out j h
          · obtain rfl : j = k := by omega
            rw [HX.out]; exact HPX.out⟩
        case measure => simp [intOf]; omega
      · rw [hpx] at hcall
        go_wp2_with fail
        refine hcall.mono ?_
        rintro e w1 ⟨rfl, hj1, hc1⟩
        have HC1 : Hid (Chg 0 lo w w1) := HC.out.trans hc1
        have HJ1 := Lib.hid hj1
        have HI : Hid (idxP p l = (k : Int)) := idxP_at (by omega) HK.out (by rw [HX.out]; exact hpx)
        clear hj1 hc1 hcall hpx
        go_wp2_with fail
        go_ret
        exact ⟨ret_int (by rw [HI.out]), ⟨k + 1, HJ1.out, fun k' hk' => by rw [HI.out] at hk'; omega⟩, HC1.out⟩
    · have HI : Hid (idxP p l = -1) := idxP_none (fun j hj => HK.out j (by have := HN.out; omega))
      go_wp2
      go_ret
      exact ⟨ret_int (by rw [HI.out]), ⟨k, HJ.out, fun k' hk' => by rw [HI.out] at hk'; omega⟩, HC.out⟩
set_option maxRecDepth 100000 in
set_option maxHeartbeats 4000000 in
/-- What is kept of an owned row, where the closure writes below the row. -/
theorem deleteFunc_j (F : FuncId) (fn : Func) (hf1 : Try.prog.funcs[F]? = some fn) (hf2 : (fn.name == "runtime.NumGoroutine") = false) (hf3 : fn.body.isNone = false) (caps : Array Value) (p : Int → Bool) (J : Nat → World → Prop) (lo hi : Nat) (e : TypeId) (a : Option Addr) (cap n : Nat) (l : List Int) (w : World) (hn : n = l.length) (ho : Own lo hi w e 1 (.slice a n cap) n (ints l)) (hhi : hi ≤ w.heap.size) (hl : n ≤ 1048576)
    (hJ0 : J 0 w) (hJs : ∀ i W W', J i W → Below W.heap.size W W' → J i W') (hJd : ∀ i W W', J i W → Chg lo hi W W' → J i W')
    (hJc : ∀ i x W, i < n → l[i]! = x → J i W → w.heap.size ≤ W.heap.size → Calls Try.prog F (#[.int .i64 x] ++ caps) W fun e W' => e = .returned (.bool (p x)) ∧ J (i + 1) W' ∧ Chg 0 lo W W') :
    Calls Try.prog 87 #[.slice a n cap, .func (.func F) #[] caps] w fun ee w' => ∃ u, ee = .returned u ∧ Own lo hi w' e 1 u (keepL p l).length (ints (keepL p l)) ∧ (∃ i, J i w') ∧ w.heap.size ≤ w'.heap.size := by
  have HN := Lib.hid hn
  have HJD := Lib.hid hJd
  have HJC := Lib.hid hJc
  have hcf := run_callFunc hf1 hf2 hf3
  have HFH : Hid (Calls Try.prog 153 #[.slice a n cap, .func (.func F) #[] caps] w fun ee w' => ee = .returned (.int .i64 (idxP p l)) ∧ (∃ i, (J i w' ∧ Own lo hi w' e 1 (.slice a n cap) n (ints l)) ∧ ∀ k : Nat, idxP p l = (k : Int) → i = k + 1) ∧ Chg 0 lo w w') := by
    show Calls _ _ _ _ _
    refine indexFunc_j F fn hf1 hf2 hf3 caps p (fun i W => J i W ∧ Own lo hi W e 1 (.slice a n cap) n (ints l)) lo a cap n l _ hn (fun i W h => ic_of' h.2 hn) hl ⟨hJ0, ho⟩ (fun i W W' h hb => ⟨hJs i W W' h.1 hb, h.2.chg (Chg.of_below (lo := lo) (hi := lo) hb) (.inr (Nat.le_refl _))⟩) (fun i x W hi hx h hz => (hJc i x W hi hx h.1 hz).mono ?_)
    rintro e1 W' ⟨rfl, h1, h2⟩
    exact ⟨rfl, ⟨h1, h.2.chg h2 (.inr (Nat.le_refl _))⟩, h2⟩
  by_cases hall : ∀ j, j < l.length → p l[j]! = false
  · have HKL : Hid (keepL p l = l) := keepL_none hall
    have HI : Hid (idxP p l = -1) := idxP_none hall
    clear hf1 hf2 hf3 hcf hn ho hall hJ0 hJs hJd hJc HJD HJC
    go_enter Try.func87, Try.ntmps87
    go_wp2_with (go_at_call 153; refine HFH.out.mono ?_; rintro ee w1 ⟨rfl, ⟨i1, ⟨hj1, ho1⟩, -⟩, hc1⟩; have HO1 := Lib.hid ho1; have HJ1 := Lib.hid hj1; have hz1 := hc1.size; clear ho1 hj1 hc1; rw [HI.out])
    go_ret
    exact ⟨_, rfl, by rw [HKL.out, ← HN.out]; exact HO1.out, ⟨_, HJ1.out⟩, hz1⟩
  · obtain ⟨k0, hk0, hne, hy⟩ : ∃ k, k < l.length ∧ (∀ j, j < k → p l[j]! = false) ∧ p l[k]! = true := by
      have hex : ∃ k, k < l.length ∧ p l[k]! = true := by
        refine Classical.byContradiction fun hc => hall fun j hj => ?_
        cases hb : p l[j]!
        · rfl
        · exact absurd ⟨j, hj, hb⟩ hc
      obtain ⟨k, hk⟩ := hex
      induction k using Nat.strongRecOn with
      | _ k ih =>
        by_cases hm : ∃ j, j < k ∧ p l[j]! = true
        · obtain ⟨j, hj, hj1⟩ := hm
          exact ih j hj ⟨by omega, hj1⟩
        · refine ⟨k, hk.1, fun j hj => ?_, hk.2⟩
          cases hb : p l[j]!
          · rfl
          · exact absurd ⟨j, hj, hb⟩ hm
    have HI : Hid (idxP p l = (k0 : Int)) := idxP_at hk0 hne hy
    have HD : Hid (DelInv p l l (k0 + 1) k0) := DelInv.start hk0 hne hy
    have hkn : k0 < n := by omega
    obtain ⟨g, c', hs, hcapn, hcapm⟩ := own_someD ho.row (by omega : 0 < n)
    obtain ⟨rfl, rfl⟩ : a = some ⟨g, 0, none⟩ ∧ cap = c' := by cases hs; exact ⟨rfl, rfl⟩
    have hgl := own_block_lo ho.row (g := g) rfl
    have hgh := ho.top g rfl
    have hne1 : ((k0 : Int) == -1) = false := beq_eq_false_iff_ne.2 (by omega)
    unfold maxLen at hcapm
    obtain ⟨i0, ji, jz0, jz1, jz2⟩ := info_parts infoI
    clear hf1 hf2 hf3 hn ho hall hne hy hs hJ0 hJs hJd hJc
    go_enter Try.func87, Try.ntmps87
    go_wp2_with (go_at_call 153; refine HFH.out.mono ?_; rintro ee w1 ⟨rfl, ⟨i1, ⟨hj1, ho1⟩, hi1⟩, hc1⟩; obtain rfl := hi1 k0 HI.out; have HO1 := Lib.hid ho1; have HJ1 := Lib.hid hj1; have hz1 := hc1.size; clear ho1 hj1 hi1 hc1; rw [HI.out])
    go_loopw [5, 6] (fun u v wr => ∃ i j : Nat, ∃ dk : List Int, u = .int .i64 i ∧ v = .int .i64 j ∧ j ≤ n ∧ w.heap.size ≤ wr.heap.size ∧ Hid (DelInv p l dk j i) ∧ Hid (Own lo hi wr e 1 (.slice (some ⟨g, 0, none⟩) n cap) n (ints dk)) ∧ Hid (J j wr)) (fun _ v _ => n - (intOf v).toNat)
    case atStart => exact ⟨k0, k0 + 1, l, rfl, by go_num, by omega, hz1, HD, HO1, HJ1⟩
    case round =>
      clear HO1 HJ1 HFH
      obtain ⟨wi, rfl⟩ : ∃ wi : World, wi = wr := ⟨_, rfl⟩
      obtain ⟨i, j, dk, rfl, rfl, hj, hzi, HV, HR, HJ⟩ := hrel
      have hij := HV.out.ij
      by_cases hlt : j < n
      · have hjI : (j : Int) < (n : Int) := by omega
        have hiI : (i : Int) < (n : Int) := by omega
        have hjl : j < l.length := by have := HN.out; omega
        have hdl : dk.length = n := by have := HV.out.len; have := HN.out; omega
        have hD : dk[j]! = l[j]! := HV.out.rest j (Nat.le_refl _) hjl
        obtain ⟨x, hx⟩ : ∃ x, x = l[j]! := ⟨_, rfl⟩
        have cj := own_intK HR.out.row j hlt hdl
        rw [hD, ← hx] at cj
        have HX := Lib.hid hx
        have hcall := HJC.out j x wi hlt hx.symm HJ.out hzi
        have HDL := Lib.hid hdl
        clear hD hx hdl
        cases hq : p x with
        | false =>
          rw [hq] at hcall
          have HQ := Lib.hid hq; clear hq
          go_wp2_with fail
          refine hcall.mono ?_
          rintro e2 w2 ⟨rfl, hj2, hc2⟩
          have HR2 : Hid (Own lo hi w2 e 1 (.slice (some ⟨g, 0, none⟩) n cap) n (ints dk)) := HR.out.chg hc2 (.inr (Nat.le_refl _))
          have hz2 := hc2.size
          obtain ⟨y, hy⟩ : ∃ y, y = dk[i]! := ⟨_, rfl⟩
          have ci2 := own_intK HR2.out.row i (by omega) HDL.out
          rw [← hy] at ci2
          have fi2 := (own_cell HR2.out.row i (by omega)).2
          obtain ⟨ho3, hg3⟩ := own_store1 HR2.out.row i x
          have HR3 : Hid (Own lo hi (w2.setCell ⟨g, i, none⟩ (.int .i64 x)) e 1 (.slice (some ⟨g, 0, none⟩) n cap) n (ints (dk.set i x))) := ⟨ho3, HR2.out.top⟩
          have HJ3 : Hid (J (j + 1) (w2.setCell ⟨g, i, none⟩ (.int .i64 x))) := HJD.out _ _ _ hj2 (Chg.of_grown hg3 (fun g' hg' => by cases hg'; exact ⟨hgl, hgh⟩))
          have hz3 := hg3.size
          clear ho3 hg3 hj2 hc2 hy cj hcall
          go_wp2_with fail
          go_roundw
          case rel => exact ⟨i + 1, j + 1, dk.set i x, by go_num, by go_num, by omega, by omega, (by have := HV.out.keep hjl (by rw [← HX.out]; exact HQ.out); rw [← HX.out] at this; exact this), HR3, HJ3⟩
          case measure => simp [intOf]; omega
        | true =>
          rw [hq] at hcall
          have HQ := Lib.hid hq; clear hq
          go_wp2_with fail
          refine hcall.mono ?_
          rintro e2 w2 ⟨rfl, hj2, hc2⟩
          have HR2 : Hid (Own lo hi w2 e 1 (.slice (some ⟨g, 0, none⟩) n cap) n (ints dk)) := HR.out.chg hc2 (.inr (Nat.le_refl _))
          have hz2 := hc2.size
          have HJ3 := Lib.hid hj2
          clear hc2 hj2 cj hcall
          go_wp2_with fail
          go_roundw
          case rel => exact ⟨i, j + 1, dk, rfl, by go_num, by omega, by omega, HV.out.skip hjl (by rw [← HX.out]; exact HQ.out), HR2, HJ3⟩
          case measure => simp [intOf]; omega
      · obtain rfl : j = n := by omega
        have hdl : dk.length = j := by have := HV.out.len; have := HN.out; omega
        have hic : i < j := hij
        have hiI : (i : Int) < (j : Int) := by omega
        have hicI : (i : Int) < (cap : Int) := by omega
        have hjc : (j : Int) ≤ (cap : Int) := by omega
        obtain ⟨w3, hrun, ho3, hg3⟩ := run_clear_rest (P := Try.prog) wi 25 0 3 e i0 Try.underlying25 ji jz0 lo g j cap i dk hic hdl HR.out.row
        have HK : Hid (dk.take i = keepL p l ∧ i = (keepL p l).length) := by
          have h1 := HV.out.kept; have h2 := HV.out.il; have h3 := HN.out
          rw [h3, keepK_all] at h1 h2
          exact ⟨h1, h2⟩
        have HR3 : Hid (Own lo hi w3 e 1 (.slice (some ⟨g, 0, none⟩) i cap) i (ints (dk.take i))) := ⟨ho3, fun g' hg' => by cases hg'; exact hgh⟩
        have HJ3 : Hid (J j w3) := HJD.out _ _ _ HJ.out (Chg.of_grown hg3 (fun g' hg' => by cases hg'; exact ⟨hgl, hgh⟩))
        have hz3 := hg3.size
        clear ho3 hg3 hdl
        rw [Nat.zero_add] at hrun
        go_wp2
        go_ret
        exact ⟨_, rfl, by have := HR3.out; rw [HK.out.1] at this; rw [← HK.out.2]; exact this, ⟨_, HJ3.out⟩, by omega⟩
end Go.Proofs.Ytcjcgcgcloanpaa

namespace Go.Proofs.Ytcjcgcgcloanpaa
open Go.RowKit Go.KD Go.Maps
attribute [local go_sem] later_cell later_frozen
set_option maxRecDepth 100000 in
set_option maxHeartbeats 8000000 in
theorem canStill_c (m : Mz) (hg : goodB m = true) (ad ak : Option Addr) (cd ck : Nat) (wb : World) (hmb : MzAt wb (.agg #[.int .i64 m.size, .slice ad m.doors.length cd, .slice ak m.keys.length ck]) m) (b : Nat) (hbz : wb.heap.size ≤ b) : ∀ (f : Nat) (L : List Int) (O n : Nat) (fm : Nat → Option Bool) (w : World), Opn m L O → (locksI m).length ≤ f + L.length → Below wb.heap.size wb w → MpO Try.prog 3 4 w b n fm → Snd m fm → n + 11 ^ (f + 1) ≤ 1000000000000000 →
    Calls Try.prog 89 #[(.agg #[.int .i64 m.size, .slice ad m.doors.length cd, .slice ak m.keys.length ck]), .int .i64 (O : Nat), .map (some b)] w fun e w' => e = .returned (.bool (stillF m O)) ∧ Chg b (b + 1) w w' ∧ ∃ n' fm', MpO Try.prog 3 4 w' b n' fm' ∧ Snd m fm' ∧ n' ≤ n + 11 ^ (f + 1) := by
  intro f
  induction f using Nat.strongRecOn with
  | _ f ih =>
  intro L O n fm w hO hf hbw hM hS hn
  have HG := Lib.hid hg
  have OK := Lib.hid (good_ok hg)
  have HOP := Lib.hid hO
  have hng : m.doors.length ≤ 30 := OK.out.nd
  have hO30 : O < 1073741824 := op_lt30 (good_ok hg) (opn_ok (good_ok hg) hO)
  have hblt := hM.lt
  have HS := Lib.hid hS
  have HIH := Lib.hid ih
  have HM1 : Hid (MzAt w (.agg #[.int .i64 m.size, .slice ad m.doors.length cd, .slice ak m.keys.length ck]) m) := hmb.later hbw
  have HBW := Lib.hid hbw
  have hwbz := hbw.size
  have HMA : Hid (MpO Try.prog 3 4 (w.alloc (.cells #[.int .i64 m.size, .slice ad m.doors.length cd, .slice ak m.keys.length ck] 27)) b n fm) := hM.alloc _
  have HWB : Hid (∀ W, Chg b (b + 1) (w.alloc (.cells #[.int .i64 m.size, .slice ad m.doors.length cd, .slice ak m.keys.length ck] 27)) W → Below wb.heap.size wb W) := fun W hW => (Below.alloc HBW.out hwbz _).trans (hW.below hbz (by simp; omega))
  have HCELL : Hid (∀ W, Chg b (b + 1) (w.alloc (.cells #[.int .i64 m.size, .slice ad m.doors.length cd, .slice ak m.keys.length ck] 27)) W → W.cell? ⟨w.heap.size, 0, none⟩ = some (.int .i64 m.size) ∧ W.cell? ⟨w.heap.size, 1, none⟩ = some (.slice ad m.doors.length cd) ∧ W.cell? ⟨w.heap.size, 2, none⟩ = some (.slice ak m.keys.length ck)) := fun W hW => ⟨(hW.cell (p := ⟨w.heap.size, 0, none⟩) (by simp) (.inr hblt)).trans (by simp [go_sem]), (hW.cell (p := ⟨w.heap.size, 1, none⟩) (by simp) (.inr hblt)).trans (by simp [go_sem]), (hW.cell (p := ⟨w.heap.size, 2, none⟩) (by simp) (.inr hblt)).trans (by simp [go_sem])⟩
  obtain ⟨q, hq⟩ : ∃ q, q = 11 ^ f := ⟨_, rfl⟩
  have hq1 : 11 ^ (f + 1) = 11 * q := by rw [hq, Nat.pow_succ, Nat.mul_comm]
  have hq0 : 1 ≤ q := by rw [hq]; exact Nat.one_le_pow _ _ (by omega)
  have HQ := Lib.hid hq
  rw [hq1] at hn ⊢
  have HF := Lib.hid hf
  clear hO hS hM hf ih hbw hq hq1
  cases hfo : fm O
  case some x =>
    have HX : Hid (x = stillF m O) := HS.out O x hfo
    go_enter Try.func89, Try.ntmps89
    go_wp2_with (at_lookup; refine wpList_lookup_mpo2 _ rfl _ _ 62 rfl 3 4 Try.underlying3 Try.underlying62 Try.underlying4 (zeroBool _) b n fm rfl HMA.out O rfl hO30 ?_; rw [hfo])
    go_ret
    exact ⟨by rw [← HX.out]; rfl, Chg.of_below (by (repeat (first | exact Below.refl _ _ | apply Below.drew | apply below_drewN | (refine Below.setCell ?_ (by first | omega | (simp; done) | (simp; omega) | (dsimp only; omega)) _) | (refine Below.alloc ?_ (by first | omega | (simp; done) | (simp; omega) | (dsimp only; omega)) _)))), n, fm, HMA.out, HS.out, by omega⟩
  case none =>
    obtain ⟨nxt, hnxt⟩ : ∃ nxt, nxt = nextL m O L := ⟨_, rfl⟩
    have hnl : nxt.length ≤ 10 := by rw [hnxt]; exact Nat.le_trans (nextL_lks m O L) (good_lks hg)
    have HNXT := Lib.hid hnxt
    obtain ⟨st, hst⟩ : ∃ st, st = stJ m O L := ⟨_, rfl⟩
    have hst0 : wonB m O = st 0 := by rw [hst, stJ_0]
    have HST0 := Lib.hid hst0
    have HSTN : Hid (∀ j, j < nxt.length → st (j + 1) = (st j || stillF m (setN O nxt[j]!))) := by rw [hst, hnxt]; exact fun j hj => stJ_next m O L hj
    have HSTA : Hid (st nxt.length = stillF m O) := by rw [hst, hnxt]; exact stJ_all hg HOP.out
    clear hnxt hst hst0
    go_enter Try.func89, Try.ntmps89
    go_wp2_with (first
      | (at_lookup; refine wpList_lookup_mpo2 _ rfl _ _ 62 rfl 3 4 Try.underlying3 Try.underlying62 Try.underlying4 (zeroBool _) b n fm rfl HMA.out O rfl hO30 ?_; rw [hfo])
      | (go_at_call 85; refine (isWon_c _ m O _ (HM1.out.later (by (repeat (first | exact Below.refl _ _ | apply Below.drew | apply below_drewN | (refine Below.setCell ?_ (by first | omega | (simp; done) | (simp; omega) | (dsimp only; omega)) _) | (refine Below.alloc ?_ (by first | omega | (simp; done) | (simp; omega) | (dsimp only; omega)) _))))) OK.out hO30).mono ?_; rintro e w1 ⟨rfl, hb1⟩; have HC1 : Hid (Chg b (b + 1) (w.alloc (.cells #[.int .i64 m.size, .slice ad m.doors.length cd, .slice ak m.keys.length ck] 27)) w1) := Chg.of_below hb1; obtain ⟨q0, q1, q2⟩ := HCELL.out w1 HC1.out; have hz1 : w.heap.size + 1 ≤ w1.heap.size := (by have := HC1.out.size; simpa using this); have HMP1 : Hid (MpO Try.prog 3 4 w1 b n fm) := HMA.out.later hb1; clear hb1; rw [HST0.out])
      | (go_at_call 83; refine (nextLocks_c _ m O L _ (hmb.later (HWB.out w1 HC1.out)) OK.out (opn_ok OK.out HOP.out)).mono ?_; rintro e w2 ⟨u2, rfl, ho2, hb2⟩; rw [← HNXT.out] at ho2; obtain ⟨a2, c2, rfl⟩ := ho2.slice; have HO2 := Lib.hid ho2; have HC2 : Hid (Chg b (b + 1) (w.alloc (.cells #[.int .i64 m.size, .slice ad m.doors.length cd, .slice ak m.keys.length ck] 27)) w2) := HC1.out.trans (Chg.of_below hb2); have HMP2 : Hid (MpO Try.prog 3 4 w2 b n fm) := HMP1.out.later hb2; have hz2 := hb2.size; clear ho2 hb2 q0 q1 q2 HMP1))
    go_loopw [27, 9] (fun iv ov wr => ∃ (j n' : Nat) (fm' : Nat → Option Bool), iv = .int .i64 j ∧ ov = .bool (st j) ∧ j ≤ nxt.length ∧ w2.heap.size ≤ wr.heap.size ∧ n' ≤ n + j * q ∧ Hid (Chg b (b + 1) (w.alloc (.cells #[.int .i64 m.size, .slice ad m.doors.length cd, .slice ak m.keys.length ck] 27)) wr) ∧ Hid (MpO Try.prog 3 4 wr b n' fm') ∧ Hid (Snd m fm') ∧ Hid (Own w1.heap.size w2.heap.size wr 3 1 (.slice a2 nxt.length c2) nxt.length (ints nxt))) (fun iv _ _ => nxt.length - (intOf iv).toNat)
    case atStart => exact ⟨0, n, fm, rfl, rfl, Nat.zero_le _, Nat.le_refl _, by omega, HC2, HMP2, HS, HO2⟩
    case round =>
      clear HC1 HC2 HMP2 HO2
      obtain ⟨wi, rfl⟩ : ∃ wi : World, wi = wr := ⟨_, rfl⟩
      obtain ⟨j, n', fm', rfl, rfl, hj, hzi, hn', HC, HMP, HSN, HO⟩ := hrel
      have hjq : j * q ≤ 10 * q := Nat.mul_le_mul_right q (by omega)
      by_cases hlt : j < nxt.length
      · have hjI : (j : Int) < (nxt.length : Int) := by omega
        obtain ⟨b8, off8, xI, ha8, HX, hbs8, e8⟩ := (ic_of HO.out).at j hlt
        subst ha8
        have hmem : xI ∈ nextL m O L := by rw [← HNXT.out, ← HX.out, getElem!_pos nxt j hlt]; exact List.getElem_mem hlt
        have HMEM := Lib.hid hmem
        obtain ⟨x, rfl, hxd⟩ := next_nat (by rw [hasI_iff]; exact hmem)
        obtain ⟨p2, HP2, ep, hp2⟩ := shl_at30 x (by omega)
        have hx30 : (x : Int) < 30 := by omega
        have eo : bits .or .i64 (O : Int) (p2 : Int) = ((O ||| p2 : Nat) : Int) := i64_or O p2 (by omega) (by omega)
        have HSET : Hid (setN O (x : Int) = O ||| p2) := by show _ = _; rw [HP2.out]; simp [setN]
        have HOX : Hid (Opn m (L ++ [(x : Int)]) (O ||| p2)) := by rw [← HSET.out]; exact opn_next HOP.out hmem
        have hfpos : 1 ≤ f := by have h1 := opn_lks OK.out HOX.out; have h2 := HF.out; simp at h1; omega
        obtain ⟨f', rfl⟩ : ∃ f', f = f' + 1 := ⟨f - 1, by omega⟩
        obtain ⟨q0, q1, q2⟩ := HCELL.out wi HC.out
        have hblt2 := HMP.out.lt
        clear hmem
        cases hs : st j
        case true =>
          have HSJ : Hid (st (j + 1) = true) := by show _ = _; rw [HSTN.out j hlt, hs]; rfl
          go_upto_region 8 with fail
          go_quiet (fail)
          go_wp2
          go_roundw
          case rel => exact ⟨j + 1, n', fm', by go_num, by rw [HSJ.out], by omega, hzi, by rw [Nat.succ_mul]; omega, HC.out.trans (Chg.of_below (by (repeat (first | exact Below.refl _ _ | apply Below.drew | apply below_drewN | (refine Below.setCell ?_ (by first | omega | (simp; done) | (simp; omega) | (dsimp only; omega)) _) | (refine Below.alloc ?_ (by first | omega | (simp; done) | (simp; omega) | (dsimp only; omega)) _))))), HMP.out.later (by (repeat (first | exact Below.refl _ _ | apply Below.drew | apply below_drewN | (refine Below.setCell ?_ (by first | omega | (simp; done) | (simp; omega) | (dsimp only; omega)) _) | (refine Below.alloc ?_ (by first | omega | (simp; done) | (simp; omega) | (dsimp only; omega)) _)))), HSN, HO.out.chg (Chg.of_below (lo := w1.heap.size) (hi := w1.heap.size) (by (repeat (first | exact Below.refl _ _ | apply Below.drew | apply below_drewN | (refine Below.setCell ?_ (by first | omega | (simp; done) | (simp; omega) | (dsimp only; omega)) _) | (refine Below.alloc ?_ (by first | omega | (simp; done) | (simp; omega) | (dsimp only; omega)) _))))) (.inr (Nat.le_refl _))⟩
          case measure => simp [intOf]; omega
        case false =>
          have HSJ : Hid (st (j + 1) = stillF m (O ||| p2)) := by show _ = _; rw [HSTN.out j hlt, hs, HX.out, HSET.out]; rfl
          have hnq : n' + 11 ^ (f' + 1) ≤ 1000000000000000 := by rw [← HQ.out]; omega
          clear hs
          go_upto_region 8 with fail
          go_region_held3 (fun W => W.cell? ⟨w.heap.size, 0, none⟩ = some (.int .i64 m.size) ∧ W.cell? ⟨w.heap.size, 1, none⟩ = some (.slice ad m.doors.length cd) ∧ W.cell? ⟨w.heap.size, 2, none⟩ = some (.slice ak m.keys.length ck))
            (first | exact ⟨q0, q1, q2⟩ | exact HCELL.out _ HC5.out)
            ((go_at_call 89; refine (HIH.out f' (by omega) (L ++ [(x : Int)]) (O ||| p2) n' fm' _ HOX.out (by have := HF.out; simp; omega) (HWB.out _ (HC.out.trans (Chg.of_below (by (repeat (first | exact Below.refl _ _ | apply Below.drew | apply below_drewN | (refine Below.setCell ?_ (by first | omega | (simp; done) | (simp; omega) | (dsimp only; omega)) _) | (refine Below.alloc ?_ (by first | omega | (simp; done) | (simp; omega) | (dsimp only; omega)) _))))))) (HMP.out.later (by (repeat (first | exact Below.refl _ _ | apply Below.drew | apply below_drewN | (refine Below.setCell ?_ (by first | omega | (simp; done) | (simp; omega) | (dsimp only; omega)) _) | (refine Below.alloc ?_ (by first | omega | (simp; done) | (simp; omega) | (dsimp only; omega)) _))))) HSN.out hnq).mono ?_; rintro e w5 ⟨rfl, hc5, n5, fm5, hm5, hs5, hn5⟩; have HC45 : Hid (Chg b (b + 1) wi w5) := Chg.trans (Chg.of_below (by (repeat (first | exact Below.refl _ _ | apply Below.drew | apply below_drewN | (refine Below.setCell ?_ (by first | omega | (simp; done) | (simp; omega) | (dsimp only; omega)) _) | (refine Below.alloc ?_ (by first | omega | (simp; done) | (simp; omega) | (dsimp only; omega)) _))))) hc5; have HC5 : Hid (Chg b (b + 1) (w.alloc (.cells #[.int .i64 m.size, .slice ad m.doors.length cd, .slice ak m.keys.length ck] 27)) w5) := HC.out.trans HC45.out))
          have HM5 := Lib.hid hm5
          have HS5 := Lib.hid hs5
          have HO5 : Hid (Own w1.heap.size w2.heap.size w5 3 1 (.slice (some ⟨b8, off8, none⟩) nxt.length c2) nxt.length (ints nxt)) := HO.out.chg HC45.out (.inr (by omega))
          have hz5 := HC45.out.size
          rw [← HQ.out] at hn5
          clear hc5 hm5 hs5
          go_wp2
          go_roundw
          case rel => exact ⟨j + 1, n5, fm5, by go_num, by rw [HSJ.out], by omega, by omega, by rw [Nat.succ_mul]; omega, HC5, HM5, HS5, HO5⟩
          case measure => simp [intOf]; omega
      · obtain rfl : j = nxt.length := by omega
        have hnm : n' < maxLen := by unfold maxLen; omega
        go_wp2_with (at_mapUpdate; refine wpList_store_mpo _ rfl _ _ _ 62 (.inl rfl) 3 4 Try.underlying3 Try.underlying62 Try.underlying4 b n' fm' rfl HMP.out hnm O (st nxt.length) rfl rfl hO30 ?_; intro w6 hm6 hg6; have HM6 := Lib.hid hm6; have HC6 : Hid (Chg b (b + 1) wi w6) := (Chg.of_grown hg6 (fun g hgg => (by cases hgg; omega))); clear hm6 hg6; rw [HSTA.out] at *)
        go_ret
        exact ⟨rfl, (Chg.of_below ((Below.refl w.heap.size w).alloc (Nat.le_refl _) _)).trans (HC.out.trans HC6.out), _, _, HM6.out, HSN.out.put O, by omega⟩
end Go.Proofs.Ytcjcgcgcloanpaa

namespace Go.Proofs.Ytcjcgcgcloanpaa
open Go.RowKit Go.KD Go.Maps
attribute [local go_sem] later_cell later_frozen
set_option maxHeartbeats 4000000 in
theorem hopeClo_c (m : Mz) (hg : goodB m = true) (ad ak : Option Addr) (cd ck : Nat) (wb : World) (hmb : MzAt wb (.agg #[.int .i64 m.size, .slice ad m.doors.length cd, .slice ak m.keys.length ck]) m) (b : Nat) (hbz : wb.heap.size ≤ b) (L : List Int) (O x z zo zk n : Nat) (fm : Nat → Option Bool) (W : World) (hO : Opn m L O) (hx : (x : Int) ∈ nextL m O L) (hbw : Below wb.heap.size wb W) (hM : MpO Try.prog 3 4 W b n fm) (hS : Snd m fm) (hn : n + 11 ^ 11 ≤ 1000000000000000) (hzz : z < wb.heap.size) (hzo : zo < wb.heap.size) (hzk : b < zk) (hzk2 : zk < W.heap.size)
    (q0 : W.cell? ⟨z, 0, none⟩ = some (.int .i64 m.size)) (q1 : W.cell? ⟨z, 1, none⟩ = some (.slice ad m.doors.length cd)) (q2 : W.cell? ⟨z, 2, none⟩ = some (.slice ak m.keys.length ck)) (q3 : W.cell? ⟨zo, 0, none⟩ = some (.int .i64 (O : Nat))) (q4 : W.cell? ⟨zk, 0, none⟩ = some (.map (some b))) :
    Calls Try.prog 88 #[.int .i64 (x : Nat), .pointer (some ⟨z, 0, none⟩), .pointer (some ⟨zo, 0, none⟩), .pointer (some ⟨zk, 0, none⟩)] W fun e w' => e = .returned (.bool (!stillF m (setN O x))) ∧ Chg b (b + 1) W w' ∧ ∃ n' fm', MpO Try.prog 3 4 w' b n' fm' ∧ Snd m fm' ∧ n' ≤ n + 11 ^ 11 := by
  have OK := Lib.hid (good_ok hg)
  have hng : m.doors.length ≤ 30 := OK.out.nd
  have hO30 : O < 1073741824 := op_lt30 (good_ok hg) (opn_ok (good_ok hg) hO)
  obtain ⟨x', hx', hxd⟩ := next_nat (by rw [hasI_iff]; exact hx)
  obtain rfl : x = x' := by omega
  obtain ⟨p2, HP2, ep, hp2⟩ := shl_at30 x (by omega)
  have hx30 : (x : Int) < 30 := by omega
  have eo : bits .or .i64 (O : Int) (p2 : Int) = ((O ||| p2 : Nat) : Int) := i64_or O p2 (by omega) (by omega)
  have HSET : Hid (setN O (x : Int) = O ||| p2) := by show _ = _; rw [HP2.out]; simp [setN]
  have HOX : Hid (Opn m (L ++ [(x : Int)]) (O ||| p2)) := by rw [← HSET.out]; exact opn_next hO hx
  have HLK : Hid ((locksI m).length ≤ 10 + (L ++ [(x : Int)]).length) := by have := good_lks hg; show _ ≤ _; omega
  have HM := Lib.hid hM
  have HS := Lib.hid hS
  have HN := Lib.hid hn
  have HBW := Lib.hid hbw
  have hbz0 := hbw.size
  have hzW : z < W.heap.size := by omega
  have hzoW : zo < W.heap.size := by omega
  have hzb : z < b := by omega
  have hzob : zo < b := by omega
  clear hM hS hn hO hx hx' hbw
  go_enter Try.func88, Try.ntmps88
  go_wp2
  go_region_held3 (fun W' => W'.cell? ⟨z, 0, none⟩ = some (.int .i64 m.size) ∧ W'.cell? ⟨z, 1, none⟩ = some (.slice ad m.doors.length cd) ∧ W'.cell? ⟨z, 2, none⟩ = some (.slice ak m.keys.length ck) ∧ W'.cell? ⟨zo, 0, none⟩ = some (.int .i64 (O : Nat)) ∧ W'.cell? ⟨zk, 0, none⟩ = some (.map (some b)))
    (first | exact ⟨q0, q1, q2, q3, q4⟩ | exact ⟨(HC5.out.cell (p := ⟨z, 0, none⟩) hzW (.inl hzb)).trans q0, (HC5.out.cell (p := ⟨z, 1, none⟩) hzW (.inl hzb)).trans q1, (HC5.out.cell (p := ⟨z, 2, none⟩) hzW (.inl hzb)).trans q2, (HC5.out.cell (p := ⟨zo, 0, none⟩) hzoW (.inl hzob)).trans q3, (HC5.out.cell (p := ⟨zk, 0, none⟩) hzk2 (.inr hzk)).trans q4⟩)
    ((go_at_call 89; refine (canStill_c m hg ad ak cd ck wb hmb b hbz 10 (L ++ [(x : Int)]) (O ||| p2) n fm _ HOX.out HLK.out (HBW.out.trans (Below.mono (B := W.heap.size) (by (repeat (first | exact Below.refl _ _ | apply Below.drew | apply below_drewN | (refine Below.setCell ?_ (by first | omega | (simp; done) | (simp; omega) | (dsimp only; omega)) _) | (refine Below.alloc ?_ (by first | omega | (simp; done) | (simp; omega) | (dsimp only; omega)) _)))) HBW.out.size)) (HM.out.later (by (repeat (first | exact Below.refl _ _ | apply Below.drew | apply below_drewN | (refine Below.setCell ?_ (by first | omega | (simp; done) | (simp; omega) | (dsimp only; omega)) _) | (refine Below.alloc ?_ (by first | omega | (simp; done) | (simp; omega) | (dsimp only; omega)) _))))) HS.out HN.out).mono ?_; rintro e w5 ⟨rfl, hc5, n5, fm5, hm5, hs5, hn5⟩; have HC5 : Hid (Chg b (b + 1) W w5) := Chg.trans (Chg.of_below (by (repeat (first | exact Below.refl _ _ | apply Below.drew | apply below_drewN | (refine Below.setCell ?_ (by first | omega | (simp; done) | (simp; omega) | (dsimp only; omega)) _) | (refine Below.alloc ?_ (by first | omega | (simp; done) | (simp; omega) | (dsimp only; omega)) _))))) hc5))
  go_wp2
  go_ret
  exact ⟨by rw [HSET.out]; rfl, HC5.out, n5, fm5, hm5, hs5, hn5⟩
/-- What holds while the closure is asked. -/
def HopJ (m : Mz) (wB : World) (i : Nat) (W : World) : Prop := Below wB.heap.size wB W ∧ wB.heap.size + 2 ≤ W.heap.size ∧ W.cell? ⟨wB.heap.size + 1, 0, none⟩ = some (.map (some wB.heap.size)) ∧ ∃ n fm, MpO Try.prog 3 4 W wB.heap.size n fm ∧ Snd m fm ∧ n ≤ i * 11 ^ 11
set_option maxHeartbeats 4000000 in
theorem implHopefulLocks_c (v : Value) (m : Mz) (aL : Option Addr) (cL : Nat) (L : List Int) (w : World) (R : List Int) (b : Bool) (hp : pHopefulLocks m L = (R, b)) (hm : MzAt w v m) (hL : IC w aL L) (hLl : L.length ≤ 1048576) (wl : ∀ y ∈ L, wfI y) : Calls Try.prog 19 #[v, .slice aL L.length cL] w fun e w' =>
    ∃ u, e = .returned (.tuple #[u, .bool b]) ∧ w'.ownsRow w.heap.size 3 1 u R.length (ints R) ∧ Below w.heap.size w w' := by
  have hM := hm
  obtain ⟨⟨ad, cd, ak, ck, rfl, hd, hk'⟩, nd, nk⟩ := hM
  clear wl
  cases b1 : askOB m L
  · simp only [pHopefulLocks, b1] at hp
    cases hp
    go_enter Try.func19, Try.ntmps19
    go_wp2_with (go_at_call 76; refine (openingOf_c _ m _ _ L _ (hm.later (by (repeat (first | exact Below.refl _ _ | apply Below.drew | apply below_drewN | (refine Below.setCell ?_ (by first | omega | (simp; done) | (simp; omega) | (dsimp only; omega)) _) | (refine Below.alloc ?_ (by first | omega | (simp; done) | (simp; omega) | (dsimp only; omega)) _))))) (hL.later (by (repeat (first | exact Below.refl _ _ | apply Below.drew | apply below_drewN | (refine Below.setCell ?_ (by first | omega | (simp; done) | (simp; omega) | (dsimp only; omega)) _) | (refine Below.alloc ?_ (by first | omega | (simp; done) | (simp; omega) | (dsimp only; omega)) _))))) hLl).mono ?_; rintro e w1 ⟨⟨O, rfl, HO⟩, hb1⟩; obtain ⟨hc1, hf1, hz1⟩ := bcell3 hb1; have HB1 : Hid (Below w.heap.size w w1) := below_then (by (repeat (first | exact Below.refl _ _ | apply Below.drew | apply below_drewN | (refine Below.setCell ?_ (by first | omega | (simp; done) | (simp; omega) | (dsimp only; omega)) _) | (refine Below.alloc ?_ (by first | omega | (simp; done) | (simp; omega) | (dsimp only; omega)) _)))) hb1; have HC1 : Hid (w1.cell? ⟨w.heap.size, 0, none⟩ = some (.int .i64 m.size) ∧ w1.cell? ⟨w.heap.size, 1, none⟩ = some (.slice ad m.doors.length cd) ∧ w1.cell? ⟨w.heap.size, 2, none⟩ = some (.slice ak m.keys.length ck) ∧ w.heap.size < w1.heap.size) := (by refine ⟨?_, ?_, ?_, ?_⟩ <;> first | (simp [*, go_sem]; done) | (simp at hz1; omega)); simp only [b1]; clear HO)
    have HBF := Lib.hid (HB1.out.alloc HB1.out.size (.cells #[.int .i64 (O : Nat)] 3))
    go_ret2
    exact ⟨_, rfl, ⟨rfl, .inl ⟨rfl, rfl⟩⟩, by first | exact HBF.out | exact below_then HB1.out (by (repeat (first | exact Below.refl _ _ | apply Below.drew | apply below_drewN | (refine Below.setCell ?_ (by first | omega | (simp; done) | (simp; omega) | (dsimp only; omega)) _) | (refine Below.alloc ?_ (by first | omega | (simp; done) | (simp; omega) | (dsimp only; omega)) _))))⟩
  · have b2 : goodB m = true ∧ opsB m L = true := by simpa [askOB] using b1
    have HG := Lib.hid b2.1
    have OK := Lib.hid (good_ok b2.1)
    have HOPN : Hid (Opn m L (opN m L)) := opn_of b2.2
    have HOP := Lib.hid (ops_ok OK.out b2.2)
    have HB1' := Lib.hid b1
    have hO30 : opN m L < 1073741824 := op_lt30 OK.out HOP.out
    clear b2
    cases b3 : wonB m (opN m L)
    case true =>
      have : pHopefulLocks m L = ([], false) := by simp [pHopefulLocks, b3]
      rw [this] at hp
      cases hp
      go_enter Try.func19, Try.ntmps19
      go_wp2_with (first
        | (go_at_call 76; refine (openingOf_c _ m _ _ L _ (hm.later (by (repeat (first | exact Below.refl _ _ | apply Below.drew | apply below_drewN | (refine Below.setCell ?_ (by first | omega | (simp; done) | (simp; omega) | (dsimp only; omega)) _) | (refine Below.alloc ?_ (by first | omega | (simp; done) | (simp; omega) | (dsimp only; omega)) _))))) (hL.later (by (repeat (first | exact Below.refl _ _ | apply Below.drew | apply below_drewN | (refine Below.setCell ?_ (by first | omega | (simp; done) | (simp; omega) | (dsimp only; omega)) _) | (refine Below.alloc ?_ (by first | omega | (simp; done) | (simp; omega) | (dsimp only; omega)) _))))) hLl).mono ?_; rintro e w1 ⟨⟨O, rfl, HO⟩, hb1⟩; obtain ⟨hc1, hf1, hz1⟩ := bcell3 hb1; have HB1 : Hid (Below w.heap.size w w1) := below_then (by (repeat (first | exact Below.refl _ _ | apply Below.drew | apply below_drewN | (refine Below.setCell ?_ (by first | omega | (simp; done) | (simp; omega) | (dsimp only; omega)) _) | (refine Below.alloc ?_ (by first | omega | (simp; done) | (simp; omega) | (dsimp only; omega)) _)))) hb1; have HC1 : Hid (w1.cell? ⟨w.heap.size, 0, none⟩ = some (.int .i64 m.size) ∧ w1.cell? ⟨w.heap.size, 1, none⟩ = some (.slice ad m.doors.length cd) ∧ w1.cell? ⟨w.heap.size, 2, none⟩ = some (.slice ak m.keys.length ck) ∧ w.heap.size < w1.heap.size) := (by refine ⟨?_, ?_, ?_, ?_⟩ <;> first | (simp [*, go_sem]; done) | (simp at hz1; omega)); simp only [b1]; have hOe := HO.out HB1'.out; subst hOe; clear HO; obtain ⟨p0, p1, p2, pz⟩ := HC1.out; have a0 := (World.cell?_alloc_lt w1 (.cells #[.int .i64 (opN m L : Nat)] 3) ⟨w.heap.size, 0, none⟩ pz).trans p0; have a1 := (World.cell?_alloc_lt w1 (.cells #[.int .i64 (opN m L : Nat)] 3) ⟨w.heap.size, 1, none⟩ pz).trans p1; have a2 := (World.cell?_alloc_lt w1 (.cells #[.int .i64 (opN m L : Nat)] 3) ⟨w.heap.size, 2, none⟩ pz).trans p2)
        | (go_at_call 85; refine (isWon_c _ m (opN m L) _ (hm.later (HB1.out.trans (Below.mono (B := w1.heap.size) (by (repeat (first | exact Below.refl _ _ | apply Below.drew | apply below_drewN | (refine Below.setCell ?_ (by first | omega | (simp; done) | (simp; omega) | (dsimp only; omega)) _) | (refine Below.alloc ?_ (by first | omega | (simp; done) | (simp; omega) | (dsimp only; omega)) _)))) HB1.out.size))) OK.out hO30).mono ?_; rintro e w2 ⟨rfl, hb2⟩; have HB2 : Hid (Below w1.heap.size w1 w2) := below_then (by (repeat (first | exact Below.refl _ _ | apply Below.drew | apply below_drewN | (refine Below.setCell ?_ (by first | omega | (simp; done) | (simp; omega) | (dsimp only; omega)) _) | (refine Below.alloc ?_ (by first | omega | (simp; done) | (simp; omega) | (dsimp only; omega)) _)))) hb2; simp only [b3]))
      go_ret2
      exact ⟨_, rfl, ⟨rfl, .inl ⟨rfl, rfl⟩⟩, below_then HB1.out HB2.out⟩
    case false =>
      have : pHopefulLocks m L = (hopeL m (opN m L) L, true) := by simp [pHopefulLocks, b1, b3]
      rw [this] at hp
      simp only [Prod.mk.injEq] at hp
      obtain ⟨hR, rfl⟩ := hp
      have HR := Lib.hid hR
      obtain ⟨nxt, hnxt⟩ : ∃ nxt, nxt = nextL m (opN m L) L := ⟨_, rfl⟩
      have hnl : nxt.length ≤ 10 := by rw [hnxt]; exact Nat.le_trans (nextL_lks m _ L) (good_lks HG.out)
      have HNXT := Lib.hid hnxt
      clear hnxt this hR
      go_enter Try.func19, Try.ntmps19
      go_upto_region 4 with (first
        | (go_at_call 76; refine (openingOf_c _ m _ _ L _ (hm.later (by (repeat (first | exact Below.refl _ _ | apply Below.drew | apply below_drewN | (refine Below.setCell ?_ (by first | omega | (simp; done) | (simp; omega) | (dsimp only; omega)) _) | (refine Below.alloc ?_ (by first | omega | (simp; done) | (simp; omega) | (dsimp only; omega)) _))))) (hL.later (by (repeat (first | exact Below.refl _ _ | apply Below.drew | apply below_drewN | (refine Below.setCell ?_ (by first | omega | (simp; done) | (simp; omega) | (dsimp only; omega)) _) | (refine Below.alloc ?_ (by first | omega | (simp; done) | (simp; omega) | (dsimp only; omega)) _))))) hLl).mono ?_; rintro e w1 ⟨⟨O, rfl, HO⟩, hb1⟩; obtain ⟨hc1, hf1, hz1⟩ := bcell3 hb1; have HB1 : Hid (Below w.heap.size w w1) := below_then (by (repeat (first | exact Below.refl _ _ | apply Below.drew | apply below_drewN | (refine Below.setCell ?_ (by first | omega | (simp; done) | (simp; omega) | (dsimp only; omega)) _) | (refine Below.alloc ?_ (by first | omega | (simp; done) | (simp; omega) | (dsimp only; omega)) _)))) hb1; have HC1 : Hid (w1.cell? ⟨w.heap.size, 0, none⟩ = some (.int .i64 m.size) ∧ w1.cell? ⟨w.heap.size, 1, none⟩ = some (.slice ad m.doors.length cd) ∧ w1.cell? ⟨w.heap.size, 2, none⟩ = some (.slice ak m.keys.length ck) ∧ w.heap.size < w1.heap.size) := (by refine ⟨?_, ?_, ?_, ?_⟩ <;> first | (simp [*, go_sem]; done) | (simp at hz1; omega)); simp only [b1]; have hOe := HO.out HB1'.out; subst hOe; clear HO; obtain ⟨p0, p1, p2, pz⟩ := HC1.out; have a0 := (World.cell?_alloc_lt w1 (.cells #[.int .i64 (opN m L : Nat)] 3) ⟨w.heap.size, 0, none⟩ pz).trans p0; have a1 := (World.cell?_alloc_lt w1 (.cells #[.int .i64 (opN m L : Nat)] 3) ⟨w.heap.size, 1, none⟩ pz).trans p1; have a2 := (World.cell?_alloc_lt w1 (.cells #[.int .i64 (opN m L : Nat)] 3) ⟨w.heap.size, 2, none⟩ pz).trans p2)
        | (go_at_call 85; refine (isWon_c _ m (opN m L) _ (hm.later (HB1.out.trans (Below.mono (B := w1.heap.size) (by (repeat (first | exact Below.refl _ _ | apply Below.drew | apply below_drewN | (refine Below.setCell ?_ (by first | omega | (simp; done) | (simp; omega) | (dsimp only; omega)) _) | (refine Below.alloc ?_ (by first | omega | (simp; done) | (simp; omega) | (dsimp only; omega)) _)))) HB1.out.size))) OK.out hO30).mono ?_; rintro e w2 ⟨rfl, hb2⟩; have HB2 : Hid (Below w1.heap.size w1 w2) := below_then (by (repeat (first | exact Below.refl _ _ | apply Below.drew | apply below_drewN | (refine Below.setCell ?_ (by first | omega | (simp; done) | (simp; omega) | (dsimp only; omega)) _) | (refine Below.alloc ?_ (by first | omega | (simp; done) | (simp; omega) | (dsimp only; omega)) _)))) hb2; obtain ⟨hc2, hf2, hz2⟩ := bcell3 hb2; have HC2 : Hid (w2.cell? ⟨w1.heap.size, 0, none⟩ = some (.int .i64 (opN m L : Nat)) ∧ w1.heap.size < w2.heap.size) := (by refine ⟨?_, ?_⟩ <;> first | (simp [*, go_sem]; done) | (simp at hz2; omega)); simp only [b3]))
      obtain ⟨p3, pz3⟩ := HC2.out
      have HD : Hid (∀ W, Below w2.heap.size w2 W → Below w.heap.size w W ∧ W.cell? ⟨w.heap.size, 0, none⟩ = some (.int .i64 m.size) ∧ W.cell? ⟨w.heap.size, 1, none⟩ = some (.slice ad m.doors.length cd) ∧ W.cell? ⟨w.heap.size, 2, none⟩ = some (.slice ak m.keys.length ck) ∧ W.cell? ⟨w1.heap.size, 0, none⟩ = some (.int .i64 (opN m L : Nat))) := fun W hW => by
        have h1 : Below w1.heap.size w1 W := below_then HB2.out hW
        exact ⟨below_then HB1.out h1, (h1.cell (p := ⟨w.heap.size, 0, none⟩) pz).trans p0, (h1.cell (p := ⟨w.heap.size, 1, none⟩) pz).trans p1, (h1.cell (p := ⟨w.heap.size, 2, none⟩) pz).trans p2, (hW.cell (p := ⟨w1.heap.size, 0, none⟩) pz3).trans p3⟩
      have hmm := @run_makeMap Try.prog
      obtain ⟨r0, r1, r2, r3, r4⟩ := HD.out (w2.alloc (.map #[] 0)) ((Below.refl _ _).alloc (Nat.le_refl _) _)
      have HMB : Hid (MzAt w2 (.agg #[.int .i64 m.size, .slice ad m.doors.length cd, .slice ak m.keys.length ck]) m) := hm.later (HD.out w2 (Below.refl _ _)).1
      have HJ0 : Hid (HopJ m w2 0 ((w2.alloc (.map #[] 0)).alloc (.cells #[.map (some w2.heap.size)] 62))) := ⟨((Below.refl _ _).alloc (Nat.le_refl _) _).alloc (by simp) _, by simp, by simp [go_sem], 0, _, (MpO.made w2 Try.prog 3 4).alloc _, Snd.none m, Nat.zero_le _⟩
      have hzm : (w2.alloc (.map #[] 0)).heap.size = w2.heap.size + 1 := by simp
      obtain ⟨t0, t1, t2, t3, t4⟩ := HD.out ((w2.alloc (.map #[] 0)).alloc (.cells #[.map (some w2.heap.size)] 62)) (((Below.refl _ _).alloc (Nat.le_refl _) _).alloc (by simp) _)
      clear hc1 hf1 hz1 hb1 p0 p1 p2 p3 hc2 hf2 hz2 hb2
      go_wp2_with (go_at_call 83; refine (nextLocks_c _ m (opN m L) L _ (hm.later t0) OK.out HOP.out).mono ?_; rintro e w5 ⟨u5, rfl, ho5, hb5⟩; rw [← HNXT.out] at ho5; obtain ⟨a5, c5, rfl⟩ := ho5.slice; have HO5 := Lib.hid ho5; clear ho5)
      have HJS : Hid (∀ i W W', HopJ m w2 i W → Below W.heap.size W W' → HopJ m w2 i W') := fun i W W' ⟨h1, h2, h3, n, fm, h4, h5, h6⟩ hb => ⟨below_then h1 hb, by have := hb.size; omega, (hb.cell (p := ⟨w2.heap.size + 1, 0, none⟩) (by show w2.heap.size + 1 < _; omega)).trans h3, n, fm, h4.later hb, h5, h6⟩
      have hz5 : w2.heap.size + 2 ≤ w5.heap.size := by have := hb5.size; simpa using this
      have hJ5 : HopJ m w2 0 w5 := HJS.out 0 _ _ HJ0.out hb5
      refine (deleteFunc_j 88 Try.f88 Try.func88 (by kernel_rfl) rfl #[.pointer (some ⟨w.heap.size, 0, none⟩), .pointer (some ⟨w1.heap.size, 0, none⟩), .pointer (some ⟨w2.heap.size + 1, 0, none⟩)] (fun k => !stillF m (setN (opN m L) k)) (HopJ m w2) _ _ _ _ _ _ nxt _ rfl HO5.out (Nat.le_refl _) (by omega) hJ5 HJS.out ?_ ?_).mono ?_
      · rintro i W W' ⟨h1, h2, h3, n, fm, h4, h5, h6⟩ hc
        have hz := hc.size
        refine ⟨h1.trans (hc.below (by simp; omega) (by omega)), by omega, (hc.cell (p := ⟨w2.heap.size + 1, 0, none⟩) (by show w2.heap.size + 1 < _; omega) (.inl (by simp))).trans h3, n, fm, h4.keep (hc.block _ (by omega) (.inl (by simp; omega))), h5, h6⟩
      · rintro i x W hi hx ⟨h1, h2, h3, n, fm, h4, h5, h6⟩ hz
        have hmem : x ∈ nextL m (opN m L) L := by rw [← HNXT.out, ← hx, getElem!_pos nxt i hi]; exact List.getElem_mem hi
        obtain ⟨xn, rfl, -⟩ := next_nat (by rw [hasI_iff]; exact hmem)
        obtain ⟨-, s1, s2, s3, s4⟩ := HD.out W h1
        have hi10 : i ≤ 10 := by omega
        have hnq := Nat.mul_le_mul_right (11 ^ 11) hi10
        have hnb : n + 11 ^ 11 ≤ 1000000000000000 := by omega
        refine (hopeClo_c m HG.out ad ak cd ck w2 HMB.out w2.heap.size (Nat.le_refl _) L (opN m L) xn w.heap.size w1.heap.size (w2.heap.size + 1) n fm W HOPN.out hmem h1 h4 h5 hnb (by omega) (by omega) (by omega) (by omega) s1 s2 s3 s4 h3).mono ?_
        rintro e W' ⟨rfl, hc, n', fm', k1, k2, k3⟩
        have hz' := hc.size
        refine ⟨rfl, ⟨h1.trans (hc.below (Nat.le_refl _) (by omega)), by omega, (hc.cell (p := ⟨w2.heap.size + 1, 0, none⟩) (by show w2.heap.size + 1 < _; omega) (.inr (Nat.le_refl _))).trans h3, n', fm', k1, k2, by rw [Nat.succ_mul]; omega⟩, ⟨hc.os, hc.tape, hc.output, hc.size, fun k hk hd => hc.block k hk (.inr (by simp at hd; omega))⟩⟩
      · rintro e w6 ⟨u6, rfl, ho6, ⟨i6, hj6⟩, hz6⟩
        have HO6 := Lib.hid ho6
        have HB6 : Hid (Below w.heap.size w w6) := (HD.out w6 hj6.1).1
        clear ho6 hj6
        go_wp2
        go_ret2
        have hzw := HB1.out.size
        have hzw2 := HB2.out.size
        exact ⟨_, rfl, by rw [← HR.out]; unfold hopeL; rw [← HNXT.out]; exact (HO6.out.mono (by simp; omega) (Nat.le_refl _)).row, HB6.out⟩
end Go.Proofs.Ytcjcgcgcloanpaa

namespace Go.KD
open Go.RowKit
def srZ (m : Mz) : List En := srF m [(([], 0) : En)]
noncomputable def stuckP (m : Mz) (O : Nat) : Bool := !wonB m O && decide ((nextL m O (mem O)).length = 0)
def allZK (m : Mz) (k : Nat) : Nat := ((locksI m).take k).foldl setN 0
def allZ (m : Mz) : Nat := allZK m (locksI m).length
noncomputable def pCountStates (m : Mz) : Int × Bool := if goodB m then (((srZ m).length : Nat), true) else (0, false)
noncomputable def pAllOpened (m : Mz) : Bool × Bool := if goodB m then ((fstE (srZ m) (fun O => decide ((O : Int) = (allZ m : Int)))).isSome, true) else (false, false)
noncomputable def pFirstWin (m : Mz) : List Int × Bool := if goodB m then ((fstE (srZ m) (wonB m)).getD [], (fstE (srZ m) (wonB m)).isSome) else ([], false)
noncomputable def pFirstStuck (m : Mz) : List Int × Bool := if goodB m then ((fstE (srZ m) (stuckP m)).getD [], (fstE (srZ m) (stuckP m)).isSome) else ([], false)
noncomputable def pIsSafe (m : Mz) : Bool × Bool := if goodB m then (!(fstE (srZ m) (stuckP m)).isSome, true) else (false, false)
theorem srZ_ok (m : Mz) : SrOk m (srZ m) := srE_ok (sr_one m (opn_nil m)) 1024
theorem srZ_le {m : Mz} (hg : goodB m = true) : (srZ m).length ≤ 1024 := (srZ_ok m).le hg
theorem fst_len {m : Mz} (hg : goodB m = true) (p : Nat → Bool) : ((fstE (srZ m) p).getD []).length ≤ 1000000 := by
  unfold fstE
  cases h : (srZ m).find? (fun e => p e.2) with
  | none => simp
  | some e =>
    have := List.mem_of_find?_eq_some h
    have := opn_len (good_ok hg) ((srZ_ok m).all e this)
    simp; omega
theorem pFirstWin_len (m : Mz) : (pFirstWin m).1.length ≤ 1000000 := by
  unfold pFirstWin; split
  · rename_i h; have := fst_len h (wonB m); simp only; omega
  · simp
theorem pFirstStuck_len (m : Mz) : (pFirstStuck m).1.length ≤ 1000000 := by
  unfold pFirstStuck; split
  · rename_i h; have := fst_len h (stuckP m); simp only; omega
  · simp
theorem allZK_step {m : Mz} {k : Nat} (h : k < (locksI m).length) : allZK m (k + 1) = setN (allZK m k) (locksI m)[k]! := by
  unfold allZK
  rw [take_snoc h, List.foldl_append]; rfl
theorem foldl_bit : ∀ (l : List Int) (a j : Nat), (∀ x ∈ l, 0 ≤ x) → ((l.foldl setN a).testBit j = true ↔ a.testBit j = true ∨ (j : Int) ∈ l)
  | [], a, j, _ => by simp
  | x :: l, a, j, h => by
    have hx := h x (by simp)
    rw [List.foldl_cons, foldl_bit l (setN a x) j (fun y hy => h y (by simp [hy])), setN_bit, Bool.or_eq_true, List.mem_cons]
    have : (decide (x.toNat = j) = true) ↔ ((j : Int) = x) := by rw [decide_eq_true_eq]; omega
    rw [this]
    constructor
    · rintro ((h | h) | h)
      · exact .inl h
      · exact .inr (.inl h)
      · exact .inr (.inr h)
    · rintro (h | h | h)
      · exact .inl (.inl h)
      · exact .inl (.inr h)
      · exact .inr h
theorem locks_pos {m : Mz} {x : Int} (h : x ∈ locksI m) : 0 ≤ x := by
  unfold locksI locksK at h
  simp only [List.mem_map] at h
  obtain ⟨a, _, rfl⟩ := h
  omega
theorem allZ_bit {m : Mz} (j : Nat) : (allZ m).testBit j = true ↔ (j : Int) ∈ locksI m := by
  unfold allZ allZK
  rw [List.take_length, foldl_bit _ _ _ (fun x hx => locks_pos hx)]
  simp
theorem allZ_code (m : Mz) : cdO m (allZ m) = 2 ^ (locksI m).length - 1 := by
  apply Nat.eq_of_testBit_eq
  intro i
  unfold cdO cdF
  rw [cdK_bit, Nat.testBit_two_pow_sub_one]
  by_cases hi : i < (locksI m).length
  · obtain ⟨j, hj, hjl⟩ := locks_at hi
    have : (allZ m).testBit ((locksI m)[i]!).toNat = true := by
      rw [allZ_bit, getElem!_pos _ i hi]
      have h0 := locks_pos (List.getElem_mem hi)
      rw [Int.toNat_of_nonneg h0]
      exact List.getElem_mem hi
    simp only [hi, decide_true, Bool.true_and, this]
  · simp [hi]
theorem all_has {m : Mz} (hg : goodB m = true) : hasI (codesE m (srZ m)) (((2 ^ (locksI m).length - 1 : Nat)) : Int) = (fstE (srZ m) (fun O => decide ((O : Int) = (allZ m : Int)))).isSome := by
  have ok := good_ok hg
  have hk : ∀ e ∈ srZ m, ((cdF m (hasI e.1) : Nat) : Int) = ((2 ^ (locksI m).length - 1 : Nat) : Int) ↔ (e.2 : Int) = (allZ m : Int) := by
    intro e he
    have ho := (srZ_ok m).all e he
    rw [cd_set ok (opn_ok ok ho), ← allZ_code]
    constructor
    · intro h
      have h' : cdO m e.2 = cdO m (allZ m) := by exact_mod_cast h
      rw [cdO_inj (opn_bits ok ho) (fun j hj => lock_mem.1 ((allZ_bit j).1 hj)) h']
    · intro h
      have : e.2 = allZ m := by exact_mod_cast h
      rw [this]
  rw [Bool.eq_iff_iff, hasI_iff]
  unfold codesE fstE
  rw [Option.isSome_map, List.find?_isSome]
  simp only [List.mem_map, decide_eq_true_eq]
  constructor
  · rintro ⟨e, he, h⟩; exact ⟨e, he, (hk e he).1 h⟩
  · rintro ⟨e, he, h⟩; exact ⟨e, he, (hk e he).2 h⟩
theorem stuck_at {m : Mz} {O : Nat} {L : List Int} (h : OpOk m O L) : stuckP m O = (!wonB m O && decide ((nextL m O L).length = 0)) := by
  unfold stuckP; rw [nextL_perm h]
end Go.KD
namespace Go.Proofs.Ytcjcgcgcloanpaa
open Go.RowKit Go.KD
attribute [local go_sem] later_cell later_frozen
/-- The search, asked by a function that only reads. -/
theorem first_b (F : FuncId) (fn : Func) (hf1 : Try.prog.funcs[F]? = some fn) (hf2 : (fn.name == "runtime.NumGoroutine") = false) (hf3 : fn.body.isNone = false) (caps : Array Value) (p : Nat → Bool) (v : Value) (m : Mz) (w : World) (hg : goodB m = true) (hm : MzAt w v m)
    (hp : ∀ W O L, Below w.heap.size w W → Opn m L O → Calls Try.prog F (#[.int .i64 (O : Nat)] ++ caps) W fun e W' => e = .returned (.bool (p O)) ∧ Below W.heap.size W W') :
    Calls Try.prog 97 #[v, .func (.func F) #[] caps] w fun e w' =>
    ∃ r, e = .returned (.tuple #[r, .bool (fstE (srZ m) p).isSome]) ∧ w'.ownsRow w.heap.size 3 1 r ((fstE (srZ m) p).getD []).length (ints ((fstE (srZ m) p).getD [])) ∧ Below w.heap.size w w' := by
  refine (first_c F fn hf1 hf2 hf3 caps p (fun _ W => Below w.heap.size w W) v m w hg (Below.refl _ _) (fun i W h => hm.later h) (fun i W W' h h' => h.trans h') (fun i W O h hz ⟨L, hL⟩ => ?_)).mono ?_
  · refine (hp W O L h hL).mono ?_
    rintro e W' ⟨rfl, hb⟩
    exact ⟨rfl, below_then h hb, Chg.of_below hb⟩
  · rintro e w' ⟨r, i, rfl, hJ, -, -, ho⟩
    exact ⟨r, rfl, ho.row, hJ⟩
end Go.Proofs.Ytcjcgcgcloanpaa

namespace Go.Proofs.Ytcjcgcgcloanpaa
open Go.RowKit Go.KD
attribute [local go_sem] later_cell later_frozen
set_option maxHeartbeats 4000000 in
theorem isStuck_c (v : Value) (m : Mz) (O : Nat) (L : List Int) (w : World) (hm : MzAt w v m) (ok : MzOk m) (hop : OpOk m O L) : Calls Try.prog 101 #[v, .int .i64 O] w fun e w' => e = .returned (.bool (stuckP m O)) ∧ Below w.heap.size w w' := by
  have hM := hm
  obtain ⟨⟨ad, cd, ak, ck, rfl, hd, hk'⟩, nd, nk⟩ := hM
  have hng : m.doors.length ≤ 30 := ok.nd
  have hO : O < 1073741824 := bits_lt30 fun i hi => Nat.lt_of_lt_of_le (hop.lt i hi) hng
  have OK := Lib.hid ok
  have HOP := Lib.hid hop
  have HST := Lib.hid (stuck_at hop)
  clear ok hop
  cases hw : wonB m O
  case true =>
    have H : Hid (stuckP m O = false) := by show _ = _; rw [HST.out, hw]; rfl
    go_enter Try.func101, Try.ntmps101
    go_wp2_with (go_at_call 85; refine (isWon_c _ m O _ (hm.later (by (repeat (first | exact Below.refl _ _ | apply Below.drew | apply below_drewN | (refine Below.setCell ?_ (by first | omega | (simp; done) | (simp; omega) | (dsimp only; omega)) _) | (refine Below.alloc ?_ (by first | omega | (simp; done) | (simp; omega) | (dsimp only; omega)) _))))) OK.out hO).mono ?_; rintro e w1 ⟨rfl, hb1⟩; simp only [hw])
    go_ret
    exact ⟨by rw [H.out]; rfl, below_then (by (repeat (first | exact Below.refl _ _ | apply Below.drew | apply below_drewN | (refine Below.setCell ?_ (by first | omega | (simp; done) | (simp; omega) | (dsimp only; omega)) _) | (refine Below.alloc ?_ (by first | omega | (simp; done) | (simp; omega) | (dsimp only; omega)) _)))) hb1⟩
  case false =>
    have H : Hid (stuckP m O = decide ((nextL m O L).length = 0)) := by show _ = _; rw [HST.out, hw]; rfl
    obtain ⟨n, hn⟩ : ∃ n, n = (nextL m O L).length := ⟨_, rfl⟩
    rw [← hn] at H
    have HN := Lib.hid hn
    clear hn HST
    obtain ⟨b, hb⟩ : ∃ b, b = decide (n = 0) := ⟨_, rfl⟩
    have hbI : ((n : Int) == 0) = b := by rw [hb]; by_cases h : n = 0 <;> simp [h]
    have HB := Lib.hid hb
    clear hb
    go_enter Try.func101, Try.ntmps101
    go_wp2_with (first
      | (go_at_call 85; refine (isWon_c _ m O _ (hm.later (by (repeat (first | exact Below.refl _ _ | apply Below.drew | apply below_drewN | (refine Below.setCell ?_ (by first | omega | (simp; done) | (simp; omega) | (dsimp only; omega)) _) | (refine Below.alloc ?_ (by first | omega | (simp; done) | (simp; omega) | (dsimp only; omega)) _))))) OK.out hO).mono ?_; rintro e w1 ⟨rfl, hb1⟩; obtain ⟨hc1, hf1, hz1⟩ := bcell3 hb1; have HB1 : Hid (Below w.heap.size w w1) := below_then (by (repeat (first | exact Below.refl _ _ | apply Below.drew | apply below_drewN | (refine Below.setCell ?_ (by first | omega | (simp; done) | (simp; omega) | (dsimp only; omega)) _) | (refine Below.alloc ?_ (by first | omega | (simp; done) | (simp; omega) | (dsimp only; omega)) _)))) hb1; simp only [hw])
      | (go_at_call 83; refine (nextLocks_c _ m O L _ (hm.later HB1.out) OK.out HOP.out).mono ?_; rintro e w2 ⟨u2, rfl, ho2, hb2⟩; obtain ⟨a2, c2, rfl⟩ := ho2.slice; rw [← HN.out]))
    go_ret
    exact ⟨by rw [H.out, ← HB.out]; rfl, below_then HB1.out hb2⟩
theorem winClo_c (O z cd ck : Nat) (ad ak : Option Addr) (m : Mz) (W : World) (hm : MzAt W (.agg #[.int .i64 m.size, .slice ad m.doors.length cd, .slice ak m.keys.length ck]) m) (ok : MzOk m) (hO : O < 1073741824) (q0 : W.cell? ⟨z, 0, none⟩ = some (.int .i64 m.size)) (q1 : W.cell? ⟨z, 1, none⟩ = some (.slice ad m.doors.length cd)) (q2 : W.cell? ⟨z, 2, none⟩ = some (.slice ak m.keys.length ck)) :
    Calls Try.prog 98 #[.int .i64 O, .pointer (some ⟨z, 0, none⟩)] W fun e W' => e = .returned (.bool (wonB m O)) ∧ Below W.heap.size W W' := by
  go_enter Try.func98, Try.ntmps98
  go_wp2_with (go_at_call 85; refine (isWon_c _ m O _ (hm.later (by (repeat (first | exact Below.refl _ _ | apply Below.drew | apply below_drewN | (refine Below.setCell ?_ (by first | omega | (simp; done) | (simp; omega) | (dsimp only; omega)) _) | (refine Below.alloc ?_ (by first | omega | (simp; done) | (simp; omega) | (dsimp only; omega)) _))))) ok hO).mono ?_; rintro e w1 ⟨rfl, hb1⟩)
  go_ret
  exact ⟨rfl, below_then (by (repeat (first | exact Below.refl _ _ | apply Below.drew | apply below_drewN | (refine Below.setCell ?_ (by first | omega | (simp; done) | (simp; omega) | (dsimp only; omega)) _) | (refine Below.alloc ?_ (by first | omega | (simp; done) | (simp; omega) | (dsimp only; omega)) _)))) hb1⟩
theorem stuckClo_c (O z cd ck : Nat) (L : List Int) (ad ak : Option Addr) (m : Mz) (W : World) (hm : MzAt W (.agg #[.int .i64 m.size, .slice ad m.doors.length cd, .slice ak m.keys.length ck]) m) (ok : MzOk m) (hop : OpOk m O L) (q0 : W.cell? ⟨z, 0, none⟩ = some (.int .i64 m.size)) (q1 : W.cell? ⟨z, 1, none⟩ = some (.slice ad m.doors.length cd)) (q2 : W.cell? ⟨z, 2, none⟩ = some (.slice ak m.keys.length ck)) :
    Calls Try.prog 100 #[.int .i64 O, .pointer (some ⟨z, 0, none⟩)] W fun e W' => e = .returned (.bool (stuckP m O)) ∧ Below W.heap.size W W' := by
  go_enter Try.func100, Try.ntmps100
  go_wp2_with (go_at_call 101; refine (isStuck_c _ m O L _ (hm.later (by (repeat (first | exact Below.refl _ _ | apply Below.drew | apply below_drewN | (refine Below.setCell ?_ (by first | omega | (simp; done) | (simp; omega) | (dsimp only; omega)) _) | (refine Below.alloc ?_ (by first | omega | (simp; done) | (simp; omega) | (dsimp only; omega)) _))))) ok hop).mono ?_; rintro e w1 ⟨rfl, hb1⟩)
  go_ret
  exact ⟨rfl, below_then (by (repeat (first | exact Below.refl _ _ | apply Below.drew | apply below_drewN | (refine Below.setCell ?_ (by first | omega | (simp; done) | (simp; omega) | (dsimp only; omega)) _) | (refine Below.alloc ?_ (by first | omega | (simp; done) | (simp; omega) | (dsimp only; omega)) _)))) hb1⟩
theorem allClo_c (O y z : Nat) (W : World) (q : W.cell? ⟨z, 0, none⟩ = some (.int .i64 (y : Int))) :
    Calls Try.prog 104 #[.int .i64 O, .pointer (some ⟨z, 0, none⟩)] W fun e W' => e = .returned (.bool (decide ((O : Int) = (y : Int)))) ∧ Below W.heap.size W W' := by
  go_enter Try.func104, Try.ntmps104
  go_wp2
  go_ret
  exact ⟨rfl, by (repeat (first | exact Below.refl _ _ | apply Below.drew | apply below_drewN | (refine Below.setCell ?_ (by first | omega | (simp; done) | (simp; omega) | (dsimp only; omega)) _) | (refine Below.alloc ?_ (by first | omega | (simp; done) | (simp; omega) | (dsimp only; omega)) _)))⟩
theorem cntClo_c (O i z : Nat) (W : World) (q : W.cell? ⟨z, 0, none⟩ = some (.int .i64 (wrap64 (i : Int)))) (f : W.frozen? ⟨z, 0, none⟩ = false) :
    Calls Try.prog 103 #[.int .i64 O, .pointer (some ⟨z, 0, none⟩)] W fun e W' => e = .returned (.bool false) ∧ W' = W.setCell ⟨z, 0, none⟩ (.int .i64 (wrap64 ((i + 1 : Nat) : Int))) := by
  have hw : wrap64 (wrap64 (i : Int) + 1) = wrap64 ((i + 1 : Nat) : Int) := by
    unfold wrap64; omega
  go_enter Try.func103, Try.ntmps103
  go_wp2
  go_ret
  exact ⟨rfl, by first | rfl | (simp; done)⟩
theorem implFirstWin_c (v : Value) (m : Mz) (w : World) (R : List Int) (b : Bool) (hp : pFirstWin m = (R, b)) (hm : MzAt w v m) : Calls Try.prog 30 #[v] w fun e w' => ∃ u, e = .returned (.tuple #[u, .bool b]) ∧ w'.ownsRow w.heap.size 3 1 u R.length (ints R) ∧ Below w.heap.size w w' := by
  have hM := hm
  obtain ⟨⟨ad, cd, ak, ck, rfl, hd, hk'⟩, nd, nk⟩ := hM
  cases b1 : goodB m
  · simp only [pFirstWin, b1] at hp
    cases hp
    go_enter Try.func30, Try.ntmps30
    go_wp2_with (go_at_call 72; refine (isSpent_c _ m _ (hm.later (by (repeat (first | exact Below.refl _ _ | apply Below.drew | apply below_drewN | (refine Below.setCell ?_ (by first | omega | (simp; done) | (simp; omega) | (dsimp only; omega)) _) | (refine Below.alloc ?_ (by first | omega | (simp; done) | (simp; omega) | (dsimp only; omega)) _)))))).mono ?_; rintro e w1 ⟨rfl, hb1⟩; have HB1 : Hid (Below w.heap.size w w1) := below_then (by (repeat (first | exact Below.refl _ _ | apply Below.drew | apply below_drewN | (refine Below.setCell ?_ (by first | omega | (simp; done) | (simp; omega) | (dsimp only; omega)) _) | (refine Below.alloc ?_ (by first | omega | (simp; done) | (simp; omega) | (dsimp only; omega)) _)))) hb1)
    have HBF := HB1
    go_ret2
    exact ⟨_, rfl, ⟨rfl, .inl ⟨rfl, rfl⟩⟩, HBF.out⟩
  · simp only [pFirstWin, b1, if_true, Prod.mk.injEq] at hp
    obtain ⟨hR, hb⟩ := hp
    have HR := Lib.hid hR
    have HB := Lib.hid hb
    have HG := Lib.hid b1
    have hng : m.doors.length ≤ 30 := (good_ok b1).nd
    clear hR hb
    go_enter Try.func30, Try.ntmps30
    go_wp2_with (go_at_call 72; refine (isSpent_c _ m _ (hm.later (by (repeat (first | exact Below.refl _ _ | apply Below.drew | apply below_drewN | (refine Below.setCell ?_ (by first | omega | (simp; done) | (simp; omega) | (dsimp only; omega)) _) | (refine Below.alloc ?_ (by first | omega | (simp; done) | (simp; omega) | (dsimp only; omega)) _)))))).mono ?_; rintro e w1 ⟨rfl, hb1⟩; obtain ⟨hc1, hf1, hz1⟩ := bcell3 hb1; have HB1 : Hid (Below w.heap.size w w1) := below_then (by (repeat (first | exact Below.refl _ _ | apply Below.drew | apply below_drewN | (refine Below.setCell ?_ (by first | omega | (simp; done) | (simp; omega) | (dsimp only; omega)) _) | (refine Below.alloc ?_ (by first | omega | (simp; done) | (simp; omega) | (dsimp only; omega)) _)))) hb1; have HC1 : Hid (w1.cell? ⟨w.heap.size, 0, none⟩ = some (.int .i64 m.size) ∧ w1.cell? ⟨w.heap.size, 1, none⟩ = some (.slice ad m.doors.length cd) ∧ w1.cell? ⟨w.heap.size, 2, none⟩ = some (.slice ak m.keys.length ck) ∧ w.heap.size < w1.heap.size) := (by refine ⟨?_, ?_, ?_, ?_⟩ <;> first | (simp [*, go_sem]; done) | (simp at hz1; omega)))
    obtain ⟨q0, q1, q2, hz⟩ := HC1.out
    refine (first_b 98 Try.f98 Try.func98 (by kernel_rfl) rfl #[.pointer (some ⟨w.heap.size, 0, none⟩)] (wonB m) _ m _ HG.out (hm.later HB1.out) (fun W O L hW hO => ?_)).mono ?_
    · exact winClo_c O w.heap.size cd ck ad ak m W ((hm.later HB1.out).later hW) (good_ok HG.out) (bits_lt30 fun i hi => Nat.lt_of_lt_of_le ((opn_ok (good_ok HG.out) hO).lt i hi) hng) ((hW.cell (p := ⟨w.heap.size, 0, none⟩) hz).trans q0) ((hW.cell (p := ⟨w.heap.size, 1, none⟩) hz).trans q1) ((hW.cell (p := ⟨w.heap.size, 2, none⟩) hz).trans q2)
    · rintro e w2 ⟨r, rfl, ho2, hb2⟩
      rw [HR.out, HB.out] at *
      have HO2 := Lib.hid ho2
      have HB2 := Lib.hid hb2
      clear ho2 hb2
      go_wp2
      go_ret2
      exact ⟨_, rfl, (Own.mono (Own.of HO2.out) HB1.out.size (Nat.le_refl _)).row, below_then HB1.out HB2.out⟩
end Go.Proofs.Ytcjcgcgcloanpaa

namespace Go.Proofs.Ytcjcgcgcloanpaa
open Go.RowKit Go.KD
attribute [local go_sem] later_cell later_frozen
theorem implFirstStuck_c (v : Value) (m : Mz) (w : World) (R : List Int) (b : Bool) (hp : pFirstStuck m = (R, b)) (hm : MzAt w v m) : Calls Try.prog 32 #[v] w fun e w' => ∃ u, e = .returned (.tuple #[u, .bool b]) ∧ w'.ownsRow w.heap.size 3 1 u R.length (ints R) ∧ Below w.heap.size w w' := by
  have hM := hm
  obtain ⟨⟨ad, cd, ak, ck, rfl, hd, hk'⟩, nd, nk⟩ := hM
  cases b1 : goodB m
  · simp only [pFirstStuck, b1] at hp
    cases hp
    go_enter Try.func32, Try.ntmps32
    go_wp2_with (go_at_call 72; refine (isSpent_c _ m _ (hm.later (by (repeat (first | exact Below.refl _ _ | apply Below.drew | apply below_drewN | (refine Below.setCell ?_ (by first | omega | (simp; done) | (simp; omega) | (dsimp only; omega)) _) | (refine Below.alloc ?_ (by first | omega | (simp; done) | (simp; omega) | (dsimp only; omega)) _)))))).mono ?_; rintro e w1 ⟨rfl, hb1⟩; have HB1 : Hid (Below w.heap.size w w1) := below_then (by (repeat (first | exact Below.refl _ _ | apply Below.drew | apply below_drewN | (refine Below.setCell ?_ (by first | omega | (simp; done) | (simp; omega) | (dsimp only; omega)) _) | (refine Below.alloc ?_ (by first | omega | (simp; done) | (simp; omega) | (dsimp only; omega)) _)))) hb1)
    have HBF := HB1
    go_ret2
    exact ⟨_, rfl, ⟨rfl, .inl ⟨rfl, rfl⟩⟩, HBF.out⟩
  · simp only [pFirstStuck, b1, if_true, Prod.mk.injEq] at hp
    obtain ⟨hR, hb⟩ := hp
    have HR := Lib.hid hR
    have HB := Lib.hid hb
    have HG := Lib.hid b1
    have hng : m.doors.length ≤ 30 := (good_ok b1).nd
    clear hR hb
    go_enter Try.func32, Try.ntmps32
    go_wp2_with (go_at_call 72; refine (isSpent_c _ m _ (hm.later (by (repeat (first | exact Below.refl _ _ | apply Below.drew | apply below_drewN | (refine Below.setCell ?_ (by first | omega | (simp; done) | (simp; omega) | (dsimp only; omega)) _) | (refine Below.alloc ?_ (by first | omega | (simp; done) | (simp; omega) | (dsimp only; omega)) _)))))).mono ?_; rintro e w1 ⟨rfl, hb1⟩; obtain ⟨hc1, hf1, hz1⟩ := bcell3 hb1; have HB1 : Hid (Below w.heap.size w w1) := below_then (by (repeat (first | exact Below.refl _ _ | apply Below.drew | apply below_drewN | (refine Below.setCell ?_ (by first | omega | (simp; done) | (simp; omega) | (dsimp only; omega)) _) | (refine Below.alloc ?_ (by first | omega | (simp; done) | (simp; omega) | (dsimp only; omega)) _)))) hb1; have HC1 : Hid (w1.cell? ⟨w.heap.size, 0, none⟩ = some (.int .i64 m.size) ∧ w1.cell? ⟨w.heap.size, 1, none⟩ = some (.slice ad m.doors.length cd) ∧ w1.cell? ⟨w.heap.size, 2, none⟩ = some (.slice ak m.keys.length ck) ∧ w.heap.size < w1.heap.size) := (by refine ⟨?_, ?_, ?_, ?_⟩ <;> first | (simp [*, go_sem]; done) | (simp at hz1; omega)))
    obtain ⟨q0, q1, q2, hz⟩ := HC1.out
    refine (first_b 100 Try.f100 Try.func100 (by kernel_rfl) rfl #[.pointer (some ⟨w.heap.size, 0, none⟩)] (stuckP m) _ m _ HG.out (hm.later HB1.out) (fun W O L hW hO => ?_)).mono ?_
    · exact stuckClo_c O w.heap.size cd ck L ad ak m W ((hm.later HB1.out).later hW) (good_ok HG.out) (opn_ok (good_ok HG.out) hO) ((hW.cell (p := ⟨w.heap.size, 0, none⟩) hz).trans q0) ((hW.cell (p := ⟨w.heap.size, 1, none⟩) hz).trans q1) ((hW.cell (p := ⟨w.heap.size, 2, none⟩) hz).trans q2)
    · rintro e w2 ⟨r, rfl, ho2, hb2⟩
      rw [HR.out, HB.out] at *
      have HO2 := Lib.hid ho2
      have HB2 := Lib.hid hb2
      clear ho2 hb2
      go_wp2
      go_ret2
      exact ⟨_, rfl, (Own.mono (Own.of HO2.out) HB1.out.size (Nat.le_refl _)).row, below_then HB1.out HB2.out⟩
theorem implIsSafe_c (v : Value) (m : Mz) (w : World) (hm : MzAt w v m) : Calls Try.prog 34 #[v] w fun e w' => e = .returned (.tuple #[.bool (pIsSafe m).1, .bool (pIsSafe m).2]) ∧ Below w.heap.size w w' := by
  have hM := hm
  obtain ⟨⟨ad, cd, ak, ck, rfl, hd, hk'⟩, nd, nk⟩ := hM
  cases b1 : goodB m
  · have H : Hid (pIsSafe m = (false, false)) := by show _ = _; simp [pIsSafe, b1]
    go_enter Try.func34, Try.ntmps34
    go_wp2_with (go_at_call 72; refine (isSpent_c _ m _ (hm.later (by (repeat (first | exact Below.refl _ _ | apply Below.drew | apply below_drewN | (refine Below.setCell ?_ (by first | omega | (simp; done) | (simp; omega) | (dsimp only; omega)) _) | (refine Below.alloc ?_ (by first | omega | (simp; done) | (simp; omega) | (dsimp only; omega)) _)))))).mono ?_; rintro e w1 ⟨rfl, hb1⟩; have HB1 : Hid (Below w.heap.size w w1) := below_then (by (repeat (first | exact Below.refl _ _ | apply Below.drew | apply below_drewN | (refine Below.setCell ?_ (by first | omega | (simp; done) | (simp; omega) | (dsimp only; omega)) _) | (refine Below.alloc ?_ (by first | omega | (simp; done) | (simp; omega) | (dsimp only; omega)) _)))) hb1; simp only [b1])
    go_ret2
    exact ⟨by rw [H.out]; rfl, HB1.out⟩
  · obtain ⟨b, hb⟩ : ∃ b, b = (fstE (srZ m) (stuckP m)).isSome := ⟨_, rfl⟩
    obtain ⟨R, hR⟩ : ∃ R, R = (fstE (srZ m) (stuckP m)).getD [] := ⟨_, rfl⟩
    have H : Hid (pIsSafe m = (!b, true)) := by show _ = _; rw [hb]; simp [pIsSafe, b1]
    have HP : Hid (pFirstStuck m = (R, b)) := by show _ = _; rw [hb, hR]; simp [pFirstStuck, b1]
    clear hb hR
    go_enter Try.func34, Try.ntmps34
    go_wp2_with (first
      | (go_at_call 72; refine (isSpent_c _ m _ (hm.later (by (repeat (first | exact Below.refl _ _ | apply Below.drew | apply below_drewN | (refine Below.setCell ?_ (by first | omega | (simp; done) | (simp; omega) | (dsimp only; omega)) _) | (refine Below.alloc ?_ (by first | omega | (simp; done) | (simp; omega) | (dsimp only; omega)) _)))))).mono ?_; rintro e w1 ⟨rfl, hb1⟩; obtain ⟨hc1, hf1, hz1⟩ := bcell3 hb1; have HB1 : Hid (Below w.heap.size w w1) := below_then (by (repeat (first | exact Below.refl _ _ | apply Below.drew | apply below_drewN | (refine Below.setCell ?_ (by first | omega | (simp; done) | (simp; omega) | (dsimp only; omega)) _) | (refine Below.alloc ?_ (by first | omega | (simp; done) | (simp; omega) | (dsimp only; omega)) _)))) hb1; simp only [b1])
      | (go_at_call 32; refine (implFirstStuck_c _ m _ _ _ HP.out (hm.later HB1.out)).mono ?_; rintro e w2 ⟨u2, rfl, ho2, hb2⟩))
    go_ret2
    exact ⟨by rw [H.out]; rfl, below_then HB1.out hb2⟩
set_option maxHeartbeats 2000000 in
theorem implCountStates_c (v : Value) (m : Mz) (w : World) (hm : MzAt w v m) : Calls Try.prog 36 #[v] w fun e w' => e = .returned (.tuple #[.int .i64 (pCountStates m).1, .bool (pCountStates m).2]) ∧ Below w.heap.size w w' := by
  have hM := hm
  obtain ⟨⟨ad, cd, ak, ck, rfl, hd, hk'⟩, nd, nk⟩ := hM
  cases b1 : goodB m
  · have H : Hid (pCountStates m = (0, false)) := by show _ = _; simp [pCountStates, b1]
    go_enter Try.func36, Try.ntmps36
    go_wp2_with (go_at_call 72; refine (isSpent_c _ m _ (hm.later (by (repeat (first | exact Below.refl _ _ | apply Below.drew | apply below_drewN | (refine Below.setCell ?_ (by first | omega | (simp; done) | (simp; omega) | (dsimp only; omega)) _) | (refine Below.alloc ?_ (by first | omega | (simp; done) | (simp; omega) | (dsimp only; omega)) _)))))).mono ?_; rintro e w1 ⟨rfl, hb1⟩; have HB1 : Hid (Below w.heap.size w w1) := below_then (by (repeat (first | exact Below.refl _ _ | apply Below.drew | apply below_drewN | (refine Below.setCell ?_ (by first | omega | (simp; done) | (simp; omega) | (dsimp only; omega)) _) | (refine Below.alloc ?_ (by first | omega | (simp; done) | (simp; omega) | (dsimp only; omega)) _)))) hb1; simp only [b1])
    go_ret2
    exact ⟨by rw [H.out]; rfl, HB1.out⟩
  · have H : Hid (pCountStates m = ((((srZ m).length : Nat) : Int), true)) := by show _ = _; simp [pCountStates, b1]
    have HG := Lib.hid b1
    have hle := srZ_le b1
    go_enter Try.func36, Try.ntmps36
    go_upto_region 3 with (go_at_call 72; refine (isSpent_c _ m _ (hm.later (by (repeat (first | exact Below.refl _ _ | apply Below.drew | apply below_drewN | (refine Below.setCell ?_ (by first | omega | (simp; done) | (simp; omega) | (dsimp only; omega)) _) | (refine Below.alloc ?_ (by first | omega | (simp; done) | (simp; omega) | (dsimp only; omega)) _)))))).mono ?_; rintro e w1 ⟨rfl, hb1⟩; obtain ⟨hc1, hf1, hz1⟩ := bcell3 hb1; have HB1 : Hid (Below w.heap.size w w1) := below_then (by (repeat (first | exact Below.refl _ _ | apply Below.drew | apply below_drewN | (refine Below.setCell ?_ (by first | omega | (simp; done) | (simp; omega) | (dsimp only; omega)) _) | (refine Below.alloc ?_ (by first | omega | (simp; done) | (simp; omega) | (dsimp only; omega)) _)))) hb1; have HC1 : Hid (w1.cell? ⟨w.heap.size, 0, none⟩ = some (.int .i64 m.size) ∧ w1.cell? ⟨w.heap.size, 1, none⟩ = some (.slice ad m.doors.length cd) ∧ w1.cell? ⟨w.heap.size, 2, none⟩ = some (.slice ak m.keys.length ck) ∧ w.heap.size < w1.heap.size) := (by refine ⟨?_, ?_, ?_, ?_⟩ <;> first | (simp [*, go_sem]; done) | (simp at hz1; omega)); clear hc1 hf1 hb1; simp only [b1])
    obtain ⟨q0, q1, q2, hz⟩ := HC1.out
    have hal : ∀ (o : Nat) (u : Obj), (w1.alloc u).cell? ⟨w.heap.size, o, none⟩ = w1.cell? ⟨w.heap.size, o, none⟩ := fun o u => World.cell?_alloc_lt _ _ _ hz
    have r0 : (w1.alloc (.cells #[.int .i64 0] 3)).cell? ⟨w.heap.size, 0, none⟩ = some (.int .i64 m.size) := (hal 0 _).trans q0
    have r1 : (w1.alloc (.cells #[.int .i64 0] 3)).cell? ⟨w.heap.size, 1, none⟩ = some (.slice ad m.doors.length cd) := (hal 1 _).trans q1
    have r2 : (w1.alloc (.cells #[.int .i64 0] 3)).cell? ⟨w.heap.size, 2, none⟩ = some (.slice ak m.keys.length ck) := (hal 2 _).trans q2
    clear hal
    go_wp2_with fail
    refine (first_c 103 Try.f103 Try.func103 (by kernel_rfl) rfl #[.pointer (some ⟨w1.heap.size, 0, none⟩)] (fun _ => false) (fun i W => Below w1.heap.size w1 W ∧ W.cell? ⟨w1.heap.size, 0, none⟩ = some (.int .i64 (wrap64 (i : Int))) ∧ W.frozen? ⟨w1.heap.size, 0, none⟩ = false ∧ w1.heap.size < W.heap.size) _ m _ HG.out ?_ ?_ ?_ ?_).mono ?_
    · exact ⟨(Below.refl _ _).alloc (Nat.le_refl _) _, by simp [go_sem]; unfold wrap64; omega, by simp [go_sem], by simp⟩
    · rintro i W ⟨h, -⟩
      exact (hm.later HB1.out).later h
    · rintro i W W' ⟨h1, h2, h3, h4⟩ h
      have hz' : w1.heap.size < (w1.alloc (.cells #[.int .i64 0] 3)).heap.size := by simp
      have := h.size
      exact ⟨h1.trans (h.mono (by omega)), (h.cell (p := ⟨w1.heap.size, 0, none⟩) hz').trans h2, (h.frozen (p := ⟨w1.heap.size, 0, none⟩) hz').trans h3, by omega⟩
    · rintro i W O ⟨h1, h2, h3, h4⟩ hz2 -
      refine (cntClo_c O i w1.heap.size W h2 h3).mono ?_
      rintro e W' ⟨rfl, rfl⟩
      refine ⟨rfl, ⟨Below.setCell h1 (Nat.le_refl _) _, World.cell?_setCell_same' _ _ _ (by rw [h2]; rfl), by simpa using h3, by simpa using h4⟩, Chg.of_grown (grown_setCell W ⟨w1.heap.size, 0, none⟩ _) (fun g hg => by cases hg; simp)⟩
    · rintro e w2 ⟨r, i, rfl, ⟨h1, h2, h3, h4⟩, hi, -, -⟩
      have hn : fstE (srF m [(([], 0) : En)]) (fun _ => false) = none := fstE_none fun _ _ => rfl
      have hi' : i = (srZ m).length := hi hn
      have hw : wrap64 (i : Int) = (((srZ m).length : Nat) : Int) := by rw [hi']; unfold wrap64; omega
      rw [hw] at h2
      clear hi hn hi'
      go_wp2
      go_ret2
      exact ⟨by rw [H.out]; rfl, below_then HB1.out h1⟩
set_option maxHeartbeats 2000000 in
theorem implAllOpened_c (v : Value) (m : Mz) (w : World) (hm : MzAt w v m) : Calls Try.prog 38 #[v] w fun e w' => e = .returned (.tuple #[.bool (pAllOpened m).1, .bool (pAllOpened m).2]) ∧ Below w.heap.size w w' := by
  have hM := hm
  obtain ⟨⟨ad, cd, ak, ck, rfl, hd, hk'⟩, nd, nk⟩ := hM
  cases b1 : goodB m
  · have H : Hid (pAllOpened m = (false, false)) := by show _ = _; simp [pAllOpened, b1]
    go_enter Try.func38, Try.ntmps38
    go_wp2_with (go_at_call 72; refine (isSpent_c _ m _ (hm.later (by (repeat (first | exact Below.refl _ _ | apply Below.drew | apply below_drewN | (refine Below.setCell ?_ (by first | omega | (simp; done) | (simp; omega) | (dsimp only; omega)) _) | (refine Below.alloc ?_ (by first | omega | (simp; done) | (simp; omega) | (dsimp only; omega)) _)))))).mono ?_; rintro e w1 ⟨rfl, hb1⟩; have HB1 : Hid (Below w.heap.size w w1) := below_then (by (repeat (first | exact Below.refl _ _ | apply Below.drew | apply below_drewN | (refine Below.setCell ?_ (by first | omega | (simp; done) | (simp; omega) | (dsimp only; omega)) _) | (refine Below.alloc ?_ (by first | omega | (simp; done) | (simp; omega) | (dsimp only; omega)) _)))) hb1; simp only [b1])
    go_ret2
    exact ⟨by rw [H.out]; rfl, HB1.out⟩
  · have H : Hid (pAllOpened m = ((fstE (srZ m) (fun O => decide ((O : Int) = (allZ m : Int)))).isSome, true)) := by show _ = _; simp [pAllOpened, b1]
    have HG := Lib.hid b1
    have hng : m.doors.length ≤ 30 := (good_ok b1).nd
    have hlk := locksK_len m.doors m.doors.length
    obtain ⟨n, hn⟩ : ∃ n, n = (locksI m).length := ⟨_, rfl⟩
    have hn30 : n ≤ 30 := by rw [hn]; unfold locksI; omega
    have HN := Lib.hid hn
    clear hn hlk
    go_enter Try.func38, Try.ntmps38
    go_upto_region 3 with (go_at_call 72; refine (isSpent_c _ m _ (hm.later (by (repeat (first | exact Below.refl _ _ | apply Below.drew | apply below_drewN | (refine Below.setCell ?_ (by first | omega | (simp; done) | (simp; omega) | (dsimp only; omega)) _) | (refine Below.alloc ?_ (by first | omega | (simp; done) | (simp; omega) | (dsimp only; omega)) _)))))).mono ?_; rintro e w1 ⟨rfl, hb1⟩; obtain ⟨hc1, hf1, hz1⟩ := bcell3 hb1; have HB1 : Hid (Below w.heap.size w w1) := below_then (by (repeat (first | exact Below.refl _ _ | apply Below.drew | apply below_drewN | (refine Below.setCell ?_ (by first | omega | (simp; done) | (simp; omega) | (dsimp only; omega)) _) | (refine Below.alloc ?_ (by first | omega | (simp; done) | (simp; omega) | (dsimp only; omega)) _)))) hb1; have HC1 : Hid (w1.cell? ⟨w.heap.size, 0, none⟩ = some (.int .i64 m.size) ∧ w1.cell? ⟨w.heap.size, 1, none⟩ = some (.slice ad m.doors.length cd) ∧ w1.cell? ⟨w.heap.size, 2, none⟩ = some (.slice ak m.keys.length ck) ∧ w.heap.size < w1.heap.size) := (by refine ⟨?_, ?_, ?_, ?_⟩ <;> first | (simp [*, go_sem]; done) | (simp at hz1; omega)); clear hc1 hf1 hb1; simp only [b1])
    obtain ⟨q0, q1, q2, hz⟩ := HC1.out
    have hal : ∀ (o : Nat) (u : Obj), (w1.alloc u).cell? ⟨w.heap.size, o, none⟩ = w1.cell? ⟨w.heap.size, o, none⟩ := fun o u => World.cell?_alloc_lt _ _ _ hz
    have r0 : (w1.alloc (.cells #[.int .i64 0] 3)).cell? ⟨w.heap.size, 0, none⟩ = some (.int .i64 m.size) := (hal 0 _).trans q0
    have r1 : (w1.alloc (.cells #[.int .i64 0] 3)).cell? ⟨w.heap.size, 1, none⟩ = some (.slice ad m.doors.length cd) := (hal 1 _).trans q1
    have r2 : (w1.alloc (.cells #[.int .i64 0] 3)).cell? ⟨w.heap.size, 2, none⟩ = some (.slice ak m.keys.length ck) := (hal 2 _).trans q2
    clear hal
    have hbA : Below w1.heap.size w1 (w1.alloc (.cells #[.int .i64 0] 3)) := (Below.refl _ _).alloc (Nat.le_refl _) _
    go_wp2_with fail
    refine (locks_c _ m _ (hm.later (below_then HB1.out hbA))).mono ?_
    rintro e w2 ⟨u2, rfl, ho2, hb2⟩
    obtain ⟨a2, c2, rfl⟩ := own_slice ho2
    have hz2 : w1.heap.size < w2.heap.size := by have := hb2.size; simp at this; omega
    have HB2 : Hid (Below w1.heap.size w1 w2) := hbA.trans (hb2.mono (by simp))
    have s0 : w2.cell? ⟨w1.heap.size, 0, none⟩ = some (.int .i64 0) := (hb2.cell (p := ⟨w1.heap.size, 0, none⟩) (by simp)).trans (by simp [go_sem])
    have s1 : w2.frozen? ⟨w1.heap.size, 0, none⟩ = false := (hb2.frozen (p := ⟨w1.heap.size, 0, none⟩) (by simp)).trans (by simp [go_sem])
    have HLO2 : Hid (∀ g, (Value.slice a2 (locksI m).length c2).ownBlock = some g → w1.heap.size + 1 ≤ g) := fun g hg => by have := own_block_lo ho2 hg; simpa using this
    have HI2 := Lib.hid (Own.of ho2)
    obtain ⟨zh, hzh⟩ : ∃ zh, zh = w2.heap.size := ⟨_, rfl⟩
    obtain ⟨zl, hzl⟩ : ∃ zl, zl = (w1.alloc (.cells #[.int .i64 0] 3)).heap.size := ⟨_, rfl⟩
    rw [← hzh, ← hzl] at HI2
    have hzh2 : zh ≤ w2.heap.size := by omega
    clear hzh hzl
    clear ho2 hb2 r0 r1 r2 hbA
    rw [← HN.out] at HI2 HLO2 ⊢
    go_wp2_with fail
    go_loopw [15] (fun i wr => ∃ k : Nat, i = .int .i64 k ∧ k ≤ n ∧ w1.heap.size < wr.heap.size ∧ zh ≤ wr.heap.size ∧ wr.cell? ⟨w1.heap.size, 0, none⟩ = some (.int .i64 (allZK m k : Nat)) ∧ wr.frozen? ⟨w1.heap.size, 0, none⟩ = false ∧ Hid (Own zl zh wr 3 1 (.slice a2 n c2) n (ints (locksI m))) ∧ Hid (Below w1.heap.size w1 wr)) (fun i _ => n - (intOf i).toNat)
    case atStart => exact ⟨0, rfl, Nat.zero_le _, hz2, hzh2, s0, s1, HI2, HB2⟩
    case round =>
      clear s0 s1 HI2 HB2 hz2 q0 q1 q2
      obtain ⟨wi, rfl⟩ : ∃ wi : World, wi = wr := ⟨_, rfl⟩
      obtain ⟨k, rfl, hk, hzi, hzh, s0, s1, HI, HB⟩ := hrel
      by_cases hlt : k < n
      · have hkI : (k : Int) < (n : Int) := by omega
        have hkl : k < (locksI m).length := by rw [← HN.out]; exact hlt
        obtain ⟨j, hj, hjd⟩ := locks_at hkl
        obtain ⟨b, off, x, rfl, HX, hbs, e0⟩ := (ic_of' HI.out HN.out).at k hkl
        rw [hj] at HX
        obtain rfl : (j : Int) = x := HX.out
        obtain ⟨p, HP, ep, hp⟩ := shl_at30 j (by omega)
        have hj30 : (j : Int) < 30 := by omega
        have hA : allZK m k < 1073741824 := bits_lt30 fun i hi => by
          have := (foldl_bit _ _ _ (fun y hy => locks_pos (List.mem_of_mem_take hy))).1 hi
          rcases this with h | h
          · simp at h
          · have := (lock_mem.1 (List.mem_of_mem_take h)).1
            omega
        have HST : Hid (allZK m (k + 1) = allZK m k ||| p) := by show _ = _; rw [allZK_step hkl, hj, HP.out]; simp [setN]
        obtain ⟨A, hAA⟩ : ∃ A, A = allZK m k := ⟨_, rfl⟩
        rw [← hAA] at hA HST s0
        have eo : bits .or .i64 (A : Int) (p : Int) = ((A ||| p : Nat) : Int) := i64_or A p (by omega) (by omega)
        have hne : b ≠ w1.heap.size := by have := HLO2.out b rfl; omega
        clear hj HX hAA
        go_upto_region 7 with fail
        go_region
        all_goals go_wp2
        all_goals go_roundw
        case rel =>
          have h1 := HI.out.grown_ne (grown_setCell wi ⟨w1.heap.size, 0, none⟩ (.int .i64 ((A ||| p : Nat) : Int))) (fun g hg e => by have h2 : b = g := (by simpa [Value.ownBlock] using hg); have h3 : w1.heap.size = g := (by simpa using e); omega)
          have h2 := h1.later (Below.refl _ _).drew (by simpa using hzh)
          refine ⟨k + 1, by go_num, by omega, by simpa using hzi, by simpa using hzh, ?_, by simpa using s1, h2, (Below.setCell HB.out (p := ⟨w1.heap.size, 0, none⟩) (Nat.le_refl _) _).drew⟩
          rw [HST.out]
          exact World.cell?_setCell_same' _ _ _ (by rw [s0]; rfl)
        case measure => simp [intOf]; omega
      · obtain rfl : k = n := by omega
        have hq : ∀ o, wi.cell? ⟨w.heap.size, o, none⟩ = w1.cell? ⟨w.heap.size, o, none⟩ := fun o => HB.out.cell (p := ⟨w.heap.size, o, none⟩) hz
        have q0 := (hq 0).trans HC1.out.1
        have q1 := (hq 1).trans HC1.out.2.1
        have q2 := (hq 2).trans HC1.out.2.2.1
        have HZ : Hid (allZK m k = allZ m) := by show _ = _; rw [HN.out]; rfl
        rw [HZ.out] at s0
        clear hq
        go_wp2_with fail
        refine (first_b 104 Try.f104 Try.func104 (by kernel_rfl) rfl #[.pointer (some ⟨w1.heap.size, 0, none⟩)] (fun O => decide ((O : Int) = (allZ m : Int))) _ m _ HG.out (hm.later (below_then HB1.out HB.out)) (fun W O L hW hO => ?_)).mono ?_
        · exact allClo_c O (allZ m) w1.heap.size W ((hW.cell (p := ⟨w1.heap.size, 0, none⟩) hzi).trans s0)
        · rintro e w3 ⟨r, rfl, ho3, hb3⟩
          obtain ⟨bb, hbb⟩ : ∃ bb, bb = (fstE (srZ m) (fun O => decide ((O : Int) = (allZ m : Int)))).isSome := ⟨_, rfl⟩
          rw [← hbb] at H ⊢
          clear ho3 hbb
          go_wp2
          go_ret2
          exact ⟨by rw [H.out]; rfl, below_then HB1.out (HB.out.trans (hb3.mono HB.out.size))⟩
end Go.Proofs.Ytcjcgcgcloanpaa
