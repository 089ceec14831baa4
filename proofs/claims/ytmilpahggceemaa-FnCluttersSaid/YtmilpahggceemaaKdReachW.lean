/- Contract of impl.reach. -/
import Derived.Test.YtmilpahggceemaaKdQueue
import Derived.Test.YtmilpahggceemaaKdReach
import Derived.Deep.RegionHeld3
set_option linter.unusedVariables false
set_option linter.unusedSimpArgs false
namespace Go.KD
open Go.RowKit
def lenV : Value → Nat
  | .slice _ n _ => n
  | _ => 0
theorem lenV_slice (a : Option Addr) (n c : Nat) : lenV (.slice a n c) = n := rfl
end Go.KD
namespace Go.Proofs.Ytmilpahggceemaa
open Go.RowKit Go.KD
attribute [local go_sem] later_cell later_frozen
set_option maxRecDepth 100000 in
set_option maxHeartbeats 4000000 in
theorem reach_c (v : Value) (m : Mz) (x s : Nat) (w : World) (hm : MzAt w v m) (ok : MzOk m) (hx : (x : Int) < m.size) :
    Calls Try.prog 319 #[v, .int .i64 x, .int .i64 s] w fun e w' => e = .returned (.int .i64 (reachN m x s)) ∧ Below w.heap.size w w' := by
  have hM := hm
  obtain ⟨⟨ad, cd, ak, ck, rfl, hd, hk'⟩, nd, nk⟩ := hM
  obtain ⟨i0, ji, jz0, jz1, jz2⟩ := info_parts infoI
  have hx12 : x < 12 := by have := ok.s2; omega
  obtain ⟨p, HP, ep, hp⟩ := shl_at x hx12
  have hx2 : (x : Int) < 12 := by omega
  have HX := Lib.hid hx; clear hx
  have HS0 : Hid (Sr m s x p [(x : Int)]) := by show Sr m s x p _; rw [HP.out]; exact Sr.start HX.out
  have HM0 : Hid (srM p 1 ≤ 25) := by show srM _ _ ≤ _; unfold srM; omega
  have OK := Lib.hid ok; clear ok
  go_enter Try.func319, Try.ntmps319
  go_wp2
  go_loopw [7, 8] (fun o t wr => ∃ out T, o = .int .i64 (out : Nat) ∧ QAt (w.heap.size + 1) wr t T ∧ Hid (Sr m s x out T) ∧ Hid (srM out T.length ≤ 25) ∧ Below (w.heap.size + 1) (w.alloc (.cells #[.int .i64 m.size, .slice ad m.doors.length cd, .slice ak m.keys.length ck] 75)) wr) (fun o t _ => srM (intOf o).toNat (lenV t))
  case atStart =>
    refine ⟨p, [(x : Int)], rfl, ?_, HS0, HM0, (Below.refl _ _).alloc (by simp) _⟩
    refine ⟨w.heap.size + 1, 0, 1, rfl, Nat.le_refl _, by simp, Nat.le_refl _, by unfold maxLen; omega, fun j hj => ?_, fun j hj => ?_⟩
    · have : j = 0 := by simpa using hj
      subst this
      simp [go_sem]
    · have : j = 0 := by omega
      subst this
      simp [go_sem]
  case round =>
    obtain ⟨wo, rfl⟩ : ∃ wo : World, wo = wr := ⟨_, rfl⟩
    obtain ⟨out, T, rfl, hq, HS, HM, hb⟩ := hrel
    have HBo := Lib.hid hb
    have HB := Lib.hid (below_box hb (by omega))
    obtain ⟨q0, q1, q2, z1⟩ := box3 hb (by omega)
    have hzo : w.heap.size + 1 ≤ wo.heap.size := by omega
    clear hb HS0 HM0
    have hol := HS.out.inm.lt OK.out
    cases T with
    | nil =>
      obtain ⟨g, off, cap, rfl, -⟩ := hq
      have HR := Lib.hid (HS.out.stop OK.out HX.out)
      go_wp2
      go_ret
      exact ⟨ret_int (by rw [HR.out]), HB.out⟩
    | cons t l =>
      have hq' := hq
      obtain ⟨g, off, cap, rfl, hg0, hgz, hlc, hcm, hcells, hroom⟩ := hq'
      obtain ⟨i, ht, hi⟩ := HS.out.sub t (by simp)
      have q3 : wo.cell? ⟨g, off, none⟩ = some (.int .i64 t) := by have := hcells 0 (by simp); simpa using this
      have HNS := Lib.hid (HS.out.step OK.out)
      have hst := stN_lt OK.out t s
      have HLS : Hid (srM (out ||| andn (stN m t s) out) (l ++ mem (andn (stN m t s) out)).length < srM out (l.length + 1)) := sr_less hst
      have HQ := Lib.hid hq
      have hll : l.length + 1 ≤ 25 := by have := HM.out; unfold srM at this; simp only [List.length_cons] at this; omega
      obtain ⟨st, hstE⟩ : ∃ st, st = stN m t s := ⟨_, rfl⟩
      rw [← hstE] at HNS HLS hst
      have HST := Lib.hid hstE; clear hstE
      have ea : bits .andNot .i64 (st : Int) (out : Int) = ((andn st out : Nat) : Int) := i64_andNot st out (by omega)
      have hnl : andn st out < 4096 := andn_lt (n := 12) hst
      obtain ⟨nx, hnx⟩ : ∃ nx, nx = andn st out := ⟨_, rfl⟩
      rw [← hnx] at ea hnl HNS HLS
      clear hnx hcells hroom hi ht hq
      have eo : bits .or .i64 (out : Int) (nx : Int) = ((out ||| nx : Nat) : Int) := i64_or out nx (by omega) (by omega)
      have h40 := mem_len40' nx
      simp only [List.length_cons] at hlc ⊢
      have hlc1 : 1 ≤ cap := by omega
      have h1l : (1 : Int) ≤ (l.length : Int) + 1 := by omega
      by_cases hc1 : cap = 1
      all_goals
        go_wp2
        go_region_held3 (fun W => W.cell? ⟨w.heap.size, 0, none⟩ = some (.int .i64 m.size) ∧ W.cell? ⟨w.heap.size, 1, none⟩ = some (.slice ad m.doors.length cd) ∧ W.cell? ⟨w.heap.size, 2, none⟩ = some (.slice ak m.keys.length ck) ∧ W.cell? ⟨g, off, none⟩ = some (.int .i64 t))
          (first | exact ⟨q0, q1, q2, q3⟩ | exact ⟨r0, r1, r2, r3⟩)
          ((go_at_call 234; refine (steps_c _ m t s _ (hm.later HB.out.drew) OK.out).mono ?_; rintro e w2 ⟨rfl, hb2⟩; rw [← HST.out]; have r0 : w2.cell? ⟨w.heap.size, 0, none⟩ = some (.int .i64 m.size) := (hb2.cell (p := ⟨w.heap.size, 0, none⟩) (show w.heap.size < wo.heap.size by assumption)).trans q0; have r1 : w2.cell? ⟨w.heap.size, 1, none⟩ = some (.slice ad m.doors.length cd) := (hb2.cell (p := ⟨w.heap.size, 1, none⟩) (show w.heap.size < wo.heap.size by assumption)).trans q1; have r2 : w2.cell? ⟨w.heap.size, 2, none⟩ = some (.slice ak m.keys.length ck) := (hb2.cell (p := ⟨w.heap.size, 2, none⟩) (show w.heap.size < wo.heap.size by assumption)).trans q2; have r3 : w2.cell? ⟨g, off, none⟩ = some (.int .i64 t) := (hb2.cell (p := ⟨g, off, none⟩) (show g < wo.heap.size by assumption)).trans q3))
        have HQ2 : Hid (QAt (w.heap.size + 1) w2 (.slice (some ⟨g, off, none⟩) (l.length + 1) cap) (t :: l)) := HQ.out.later (show Below wo.heap.size wo w2 from ((Below.refl _ _).drew).trans hb2)
        have HB2 : Hid (Below (w.heap.size + 1) (w.alloc (.cells #[.int .i64 m.size, .slice ad m.doors.length cd, .slice ak m.keys.length ck] 75)) w2) := HBo.out.drew.trans (hb2.mono hzo)
        have hz2 : w.heap.size + 1 ≤ w2.heap.size := by have := HB2.out.size; simpa using this
        clear hb2 q0 q1 q2 q3 r0 r1 r2 r3
        go_wp2
        go_region_law (first
          | (refine step_append_queue w3 (by rfl) _ _ 24 (by rfl) 3 i0 (.int .i64 0) Try.underlying24 ji jz0 jz1 jz2 rfl (w.heap.size + 1) _ l (by rfl) (HQ3.out.tail (by simp) (by omega) (by simp [hc1])) a3 c3 (mem nx) (by rfl) HC3.out (by omega) (by have := HB3.out.size; omega) ?_; intro v4 w4 hq4 hb4)
          | (go_simp; go_wp2_with (go_at_call 192; refine (members_c nx (by omega) _).mono ?_; rintro e w3 ⟨v3, rfl, ho3, hb3⟩; obtain ⟨a3, c3, rfl, -, hc3⟩ := (Own.of ho3).ic; have HQ3 := Lib.hid (HQ2.out.later ((Below.refl _ _).drew.trans hb3)); have HC3 := Lib.hid hc3; have HB3 : Hid (Below (w.heap.size + 1) w2 w3) := (Below.refl _ _).drew.trans (hb3.mono hz2); clear ho3 hc3 hb3)))
        all_goals
          simp only [List.getElem_toArray, List.getElem_cons_succ, List.getElem_cons_zero, List.size_toArray, List.length_cons, List.length_nil, Act.put, Act.eval, List.setIfInBounds_toArray, List.set_cons_succ, List.set_cons_zero]
          go_wp2
          go_roundw
          case rel => exact ⟨out ||| nx, l ++ mem nx, rfl, hq4, HNS, by have := HLS.out; have := HM.out; simp only [List.length_cons] at this; show srM _ _ ≤ _; omega, HB2.out.trans (HB3.out.trans hb4)⟩
          case measure =>
            obtain ⟨g4, o4, c4, rfl, -⟩ := hq4
            have := HLS.out
            simpa [intOf, lenV] using this
end Go.Proofs.Ytmilpahggceemaa
