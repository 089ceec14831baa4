/- HopefulLocks: the reference's. -/
import Derived.Test.YtbaahghfjmkeoaaKdFrsC
import Derived.Test.YtbaahghfjmkeoaaKdHope0
import Derived.Deep.AppendLies
set_option linter.unusedVariables false
set_option linter.unusedSimpArgs false
namespace Go.Proofs.Ytbaahghfjmkeoaa
open Go.RowKit Go.KD
attribute [local go_sem] later_cell later_frozen
set_option maxRecDepth 100000 in
theorem l7SearchE_c (v : Value) (m : Mz) (aB : Option Addr) (cB nB : Nat) (L : List Int) (O : Nat) (w : World) (hnB : nB = L.length) (hm : MzAt w v m) (hg : goodB m = true) (hL : IC w aB L) (hOp : Opn m L O) (E : List En) (hE : E = srF m [((L, O) : En)]) : Calls Try.prog 81 #[v, .slice aB nB cB] w fun e w' =>
    ∃ g c gc cc vs, e = .returned (.agg #[.slice (some ⟨g, 0, none⟩) E.length c, .slice (some ⟨gc, 0, none⟩) E.length cc]) ∧ (∃ lo x y, RwS false w' lo 23 3 g c x y vs (lisE E)) ∧ Below w.heap.size w w' := by
  rw [hE]
  refine (l7Search_c v m aB cB nB L O w hnB hm hg hL hOp).mono ?_
  rintro e w' ⟨g, c, gc, cc, vs, h1, h2, -, h4⟩
  exact ⟨g, c, gc, cc, vs, h1, h2, h4⟩
set_option maxRecDepth 100000 in
set_option maxHeartbeats 4000000 in
theorem l7Hope_c (v : Value) (m : Mz) (aB : Option Addr) (cB nB : Nat) (L : List Int) (O : Nat) (w : World) (hnB : nB = L.length) (hm : MzAt w v m) (b1 : goodB m = true) (hL : IC w aB L) (hOp : Opn m L O) : Calls Try.prog 57 #[v, .slice aB nB cB] w fun e w' => e = .returned (.bool (stillF m O)) ∧ Below w.heap.size w w' := by
  subst hnB
  have hM := hm
  obtain ⟨⟨ad, cd, ak, ck, rfl, hd, hk'⟩, nd, nk⟩ := hM
  obtain ⟨E, hE, hEO, hle, hR⟩ := sr_pack b1 hOp
  have HR := Lib.hid hR
  have HEO := Lib.hid hEO
  have HE := Lib.hid hE
  have HG := Lib.hid b1
  clear hE hEO hR
  obtain ⟨q0, q1, q2, hz⟩ := box3 (Below.refl (w.heap.size + 1) (w.alloc (.cells #[.int .i64 m.size, .slice ad m.doors.length cd, .slice ak m.keys.length ck] 29))) (Nat.le_refl _)
  go_enter Try.func57, Try.ntmps57
  go_wp2_with fail
  refine (l7SearchE_c _ m _ _ _ L O _ rfl (hm.later (by (repeat (first | exact Below.refl _ _ | apply Below.drew | apply below_drewN | (refine Below.setCell ?_ (by first | omega | (simp; done) | (simp; omega) | (dsimp only; omega)) _) | (refine Below.alloc ?_ (by first | omega | (simp; done) | (simp; omega) | (dsimp only; omega)) _))))) HG.out (hL.later (by (repeat (first | exact Below.refl _ _ | apply Below.drew | apply below_drewN | (refine Below.setCell ?_ (by first | omega | (simp; done) | (simp; omega) | (dsimp only; omega)) _) | (refine Below.alloc ?_ (by first | omega | (simp; done) | (simp; omega) | (dsimp only; omega)) _))))) hOp E HE.out).mono ?_
  rintro e w2 ⟨g, c, gc, cc, vs, rfl, ⟨lo, xx, yy, hr2⟩, hb2⟩
  have HR2 := Lib.hid hr2
  have HB2 : Hid (Below w.heap.size w w2) := below_then (by (repeat (first | exact Below.refl _ _ | apply Below.drew | apply below_drewN | (refine Below.setCell ?_ (by first | omega | (simp; done) | (simp; omega) | (dsimp only; omega)) _) | (refine Below.alloc ?_ (by first | omega | (simp; done) | (simp; omega) | (dsimp only; omega)) _)))) hb2
  have hz2 : w.heap.size + 1 ≤ w2.heap.size := by have := hb2.size; simpa using this
  have r0 := (hb2.cell (p := ⟨w.heap.size, 0, none⟩) (by simp)).trans q0
  have r1 := (hb2.cell (p := ⟨w.heap.size, 1, none⟩) (by simp)).trans q1
  have r2 := (hb2.cell (p := ⟨w.heap.size, 2, none⟩) (by simp)).trans q2
  clear hr2 hb2 q0 q1 q2
  have HBS : Hid (Below (w2.heap.size + 1) (w2.alloc (.cells #[.slice (some ⟨g, 0, none⟩) E.length c, .slice (some ⟨gc, 0, none⟩) E.length cc] 75)) (w2.alloc (.cells #[.slice (some ⟨g, 0, none⟩) E.length c, .slice (some ⟨gc, 0, none⟩) E.length cc] 75))) := Below.refl _ _
  have HS : Hid (∀ W, Below (w2.heap.size + 1) (w2.alloc (.cells #[.slice (some ⟨g, 0, none⟩) E.length c, .slice (some ⟨gc, 0, none⟩) E.length cc] 75)) W → w2.heap.size < W.heap.size ∧ Below w.heap.size w W ∧ (W.cell? ⟨w.heap.size, 0, none⟩ = some (.int .i64 m.size) ∧ W.cell? ⟨w.heap.size, 1, none⟩ = some (.slice ad m.doors.length cd) ∧ W.cell? ⟨w.heap.size, 2, none⟩ = some (.slice ak m.keys.length ck) ∧ W.cell? ⟨w2.heap.size, 0, none⟩ = some (.slice (some ⟨g, 0, none⟩) E.length c)) ∧ RwS false W lo 23 3 g c xx yy vs (lisE E)) := by
    intro W hW
    have hb : Below w2.heap.size w2 W := ((Below.refl _ _).alloc (Nat.le_refl _) _).trans (hW.mono (by omega))
    refine ⟨by have := hW.size; simp at this; omega, below_then HB2.out hb, ⟨(hb.cell (p := ⟨w.heap.size, 0, none⟩) (by show w.heap.size < _; omega)).trans r0, (hb.cell (p := ⟨w.heap.size, 1, none⟩) (by show w.heap.size < _; omega)).trans r1, (hb.cell (p := ⟨w.heap.size, 2, none⟩) (by show w.heap.size < _; omega)).trans r2, (hW.cell (p := ⟨w2.heap.size, 0, none⟩) (by show w2.heap.size < _; omega)).trans (by simp [go_sem])⟩, HR2.out.later hb⟩
  clear r0 r1 r2 HR2
  go_wp2_with fail
  go_loopw [6] (fun i wr => ∃ k : Nat, i = .int .i64 k ∧ k ≤ E.length ∧ Hid (Below (w2.heap.size + 1) (w2.alloc (.cells #[.slice (some ⟨g, 0, none⟩) E.length c, .slice (some ⟨gc, 0, none⟩) E.length cc] 75)) wr) ∧ Hid (∀ j, j < k → wonB m (E[j]!).2 = false)) (fun i _ => E.length - (intOf i).toNat)
  case atStart => exact ⟨0, rfl, Nat.zero_le _, HBS, fun j hj => by omega⟩
  case round =>
    clear HBS
    obtain ⟨wo, rfl⟩ : ∃ wo : World, wo = wr := ⟨_, rfl⟩
    obtain ⟨k, rfl, hk, HBO, HP⟩ := hrel
    obtain ⟨hzo, hbo, ⟨q0, q1, q2, q3⟩, hrow⟩ := HS.out wo HBO.out
    have HBW := Lib.hid hbo
    clear hbo
    by_cases hlt : k < E.length
    · have hkI : (k : Int) < (E.length : Int) := by omega
      obtain ⟨Lk, hLk⟩ : ∃ Lk, Lk = (E[k]!).1 := ⟨_, rfl⟩
      obtain ⟨Ok, hOk⟩ : ∃ Ok, Ok = (E[k]!).2 := ⟨_, rfl⟩
      have HOPk : Hid (Opn m Lk Ok) := by
        show Opn m Lk Ok
        rw [hLk, hOk]
        exact HEO.out.all E[k]! (by rw [getElem!_pos E k hlt]; exact List.getElem_mem hlt)
      have HLK := Lib.hid hLk
      have HOK2 := Lib.hid hOk
      have hLk30 := opn_len (good_ok HG.out) HOPk.out
      have he := hrow.each k (by simpa using hlt)
      rw [lisE_at hlt, ← hLk] at he
      obtain ⟨aK, cK, hvk, hik⟩ := he.ic
      have ek := hrow.cell (i := k) (by simpa using hlt)
      rw [hvk] at ek
      have hgz := hrow.gs
      have HIK := Lib.hid hik
      have hzl : w.heap.size < wo.heap.size := by omega
      have HS2 : Hid (∀ W, Below wo.heap.size wo W → W.cell? ⟨w.heap.size, 0, none⟩ = some (.int .i64 m.size) ∧ W.cell? ⟨w.heap.size, 1, none⟩ = some (.slice ad m.doors.length cd) ∧ W.cell? ⟨w.heap.size, 2, none⟩ = some (.slice ak m.keys.length ck) ∧ W.cell? ⟨w2.heap.size, 0, none⟩ = some (.slice (some ⟨g, 0, none⟩) E.length c) ∧ W.cell? ⟨g, k, none⟩ = some (.slice aK Lk.length cK)) := fun W hW => ⟨(hW.cell (p := ⟨w.heap.size, 0, none⟩) hzl).trans q0, (hW.cell (p := ⟨w.heap.size, 1, none⟩) hzl).trans q1, (hW.cell (p := ⟨w.heap.size, 2, none⟩) hzl).trans q2, (hW.cell (p := ⟨w2.heap.size, 0, none⟩) hzo).trans q3, (hW.cell (p := ⟨g, k, none⟩) hgz).trans ek⟩
      clear hLk hOk he hvk hik hrow
      go_upto_region 5 with fail
      go_cut [23] (fun s wx => s = .bool (wonB m Ok) ∧ Hid (Below wo.heap.size wo wx))
      case first =>
        go_region_held3 (fun W => W.cell? ⟨w.heap.size, 0, none⟩ = some (.int .i64 m.size) ∧ W.cell? ⟨w.heap.size, 1, none⟩ = some (.slice ad m.doors.length cd) ∧ W.cell? ⟨w.heap.size, 2, none⟩ = some (.slice ak m.keys.length ck) ∧ W.cell? ⟨w2.heap.size, 0, none⟩ = some (.slice (some ⟨g, 0, none⟩) E.length c) ∧ W.cell? ⟨g, k, none⟩ = some (.slice aK Lk.length cK))
          (exact HS2.out _ (by repeat (first | exact Below.refl _ _ | exact HB8.out | apply Below.drew | apply below_drewN | (refine Below.setCell ?_ (by first | omega | (simp; done) | (simp; omega) | (dsimp only; omega)) _) | (refine Below.alloc ?_ (by first | omega | (simp; done) | (simp; omega) | (dsimp only; omega)) _))))
          ((go_at_call 55; refine (l7Wins_c _ m Ok _ _ _ Lk _ rfl ((hm.later HBW.out).later (by repeat (first | exact Below.refl _ _ | apply Below.drew | apply below_drewN | (refine Below.setCell ?_ (by first | omega | (simp; done) | (simp; omega) | (dsimp only; omega)) _) | (refine Below.alloc ?_ (by first | omega | (simp; done) | (simp; omega) | (dsimp only; omega)) _)))) (good_ok HG.out) (HIK.out.later (by repeat (first | exact Below.refl _ _ | apply Below.drew | apply below_drewN | (refine Below.setCell ?_ (by first | omega | (simp; done) | (simp; omega) | (dsimp only; omega)) _) | (refine Below.alloc ?_ (by first | omega | (simp; done) | (simp; omega) | (dsimp only; omega)) _)))) (by omega) (opn_ok (good_ok HG.out) HOPk.out)).mono ?_; rintro e w8 ⟨rfl, hb8⟩; have HB8 : Hid (Below wo.heap.size wo w8) := (Below.refl _ _).drew.trans hb8; clear hb8))
        all_goals
          go_wp2_with fail
          go_meet
          case rel => exact ⟨rfl, HB8⟩
      case rest =>
        obtain ⟨rfl, HBC⟩ := hcut
        obtain ⟨t0, t1, t2, t3, t4⟩ := HS2.out _ HBC.out
        clear q0 q1 q2 q3 ek HS2
        cases hw : wonB m Ok
        case false =>
          have HPK : Hid (∀ j, j < k + 1 → wonB m (E[j]!).2 = false) := by
            intro j hj
            rcases Nat.lt_or_ge j k with h | h
            · exact HP.out j h
            · obtain rfl : j = k := by omega
              rw [← HOK2.out]; exact hw
          clear hw
          go_wp2
          go_roundw
          case rel => exact ⟨k + 1, by go_num, by omega, HBO.out.trans (HBC.out.mono (by omega)), HPK⟩
          case measure => simp [intOf]; omega
        case true =>
          have HF : Hid (stillF m O = true) := by
            show _ = _
            rw [← HR.out, List.any_eq_true]
            exact ⟨E[k]!, by rw [getElem!_pos E k hlt]; exact List.getElem_mem hlt, by rw [← HOK2.out]; exact hw⟩
          clear hw
          go_wp2
          go_ret
          exact ⟨by rw [HF.out]; rfl, below_then HBW.out HBC.out⟩
    · obtain rfl : k = E.length := by omega
      have HF : Hid (stillF m O = false) := by
        show _ = _
        rw [← HR.out, List.any_eq_false]
        intro e he
        obtain ⟨j, hj, rfl⟩ := List.mem_iff_getElem.1 he
        have := HP.out j hj
        rw [getElem!_pos E j hj] at this
        rw [this]; simp
      go_wp2
      go_ret
      exact ⟨by rw [HF.out]; rfl, HBW.out⟩
set_option maxRecDepth 100000 in
set_option maxHeartbeats 8000000 in
theorem specHopefulLocks_c (v : Value) (m : Mz) (aL : Option Addr) (cL : Nat) (L : List Int) (w : World) (R : List Int) (b : Bool) (hp : pHopefulLocks m L = (R, b)) (hm : MzAt w v m) (hL : IC w aL L) (hLl : L.length ≤ 1048576) (wl : ∀ y ∈ L, wfI y) (hcap : 0 < L.length → L.length ≤ cL ∧ cL ≤ maxLen) : Calls Try.prog 8 #[v, .slice aL L.length cL] w fun e w' =>
    ∃ aw cw, e = .returned (.tuple #[.slice aw R.length cw, .bool b]) ∧ IC w' aw R ∧ Below w.heap.size w w' := by
  have hM := hm
  obtain ⟨⟨ad, cd, ak, ck, rfl, hd, hk'⟩, nd, nk⟩ := hM
  obtain ⟨i0, ji, jz0, jz1, jz2⟩ := info_parts infoI
  have HCAP := Lib.hid hcap; clear hcap wl
  cases b1 : askOB m L
  · have hp' : pHopefulLocks m L = ([], false) := by simp [pHopefulLocks, b1]
    rw [hp'] at hp
    cases hp
    clear hp'
    go_enter Try.func8, Try.ntmps8
    go_wp2_with (go_at_call 54; refine (l7Ask_c _ m _ _ L _ (hm.later (by (repeat (first | exact Below.refl _ _ | apply Below.drew | apply below_drewN | (refine Below.setCell ?_ (by first | omega | (simp; done) | (simp; omega) | (dsimp only; omega)) _) | (refine Below.alloc ?_ (by first | omega | (simp; done) | (simp; omega) | (dsimp only; omega)) _))))) (hL.later (by (repeat (first | exact Below.refl _ _ | apply Below.drew | apply below_drewN | (refine Below.setCell ?_ (by first | omega | (simp; done) | (simp; omega) | (dsimp only; omega)) _) | (refine Below.alloc ?_ (by first | omega | (simp; done) | (simp; omega) | (dsimp only; omega)) _))))) hLl HCAP.out).mono ?_; rintro e w1 ⟨rfl, hb1⟩; obtain ⟨hc1, hf1, hz1⟩ := bcell3 hb1; have HB1 : Hid (Below w.heap.size w w1) := below_then (by (repeat (first | exact Below.refl _ _ | apply Below.drew | apply below_drewN | (refine Below.setCell ?_ (by first | omega | (simp; done) | (simp; omega) | (dsimp only; omega)) _) | (refine Below.alloc ?_ (by first | omega | (simp; done) | (simp; omega) | (dsimp only; omega)) _)))) hb1; have HBX : Hid (Below (w.heap.size + 1) (w.alloc (.cells #[.int .i64 m.size, .slice ad m.doors.length cd, .slice ak m.keys.length ck] 29)) w1) := Below.trans ((Below.refl _ _).alloc (by simp) _) (hb1.mono (by simp)); have HE1 := Lib.hid hb1; simp only [b1])
    go_ret2
    exact ⟨_, _, rfl, ic_nil _ _, HB1.out⟩
  · have b2 : goodB m = true ∧ opsB m L = true := by simpa [askOB] using b1
    have HG := Lib.hid b2.1
    have OK := Lib.hid (good_ok b2.1)
    have HOPN : Hid (Opn m L (opN m L)) := opn_of b2.2
    have HOP := Lib.hid (ops_ok OK.out b2.2)
    have hL30 := op_len OK.out HOP.out
    clear b2
    obtain ⟨q0, q1, q2, hz⟩ := box3 (Below.refl (w.heap.size + 1) (w.alloc (.cells #[.int .i64 m.size, .slice ad m.doors.length cd, .slice ak m.keys.length ck] 29))) (Nat.le_refl _)
    cases b3 : wonB m (opN m L)
    case true =>
      have hp' : pHopefulLocks m L = ([], false) := by simp [pHopefulLocks, b3]
      rw [hp'] at hp
      cases hp
      clear hp'
      go_enter Try.func8, Try.ntmps8
      go_wp2_with (first
        | (go_at_call 54; refine (l7Ask_c _ m _ _ L _ (hm.later (by (repeat (first | exact Below.refl _ _ | apply Below.drew | apply below_drewN | (refine Below.setCell ?_ (by first | omega | (simp; done) | (simp; omega) | (dsimp only; omega)) _) | (refine Below.alloc ?_ (by first | omega | (simp; done) | (simp; omega) | (dsimp only; omega)) _))))) (hL.later (by (repeat (first | exact Below.refl _ _ | apply Below.drew | apply below_drewN | (refine Below.setCell ?_ (by first | omega | (simp; done) | (simp; omega) | (dsimp only; omega)) _) | (refine Below.alloc ?_ (by first | omega | (simp; done) | (simp; omega) | (dsimp only; omega)) _))))) hLl HCAP.out).mono ?_; rintro e w1 ⟨rfl, hb1⟩; obtain ⟨hc1, hf1, hz1⟩ := bcell3 hb1; have HB1 : Hid (Below w.heap.size w w1) := below_then (by (repeat (first | exact Below.refl _ _ | apply Below.drew | apply below_drewN | (refine Below.setCell ?_ (by first | omega | (simp; done) | (simp; omega) | (dsimp only; omega)) _) | (refine Below.alloc ?_ (by first | omega | (simp; done) | (simp; omega) | (dsimp only; omega)) _)))) hb1; have HBX : Hid (Below (w.heap.size + 1) (w.alloc (.cells #[.int .i64 m.size, .slice ad m.doors.length cd, .slice ak m.keys.length ck] 29)) w1) := Below.trans ((Below.refl _ _).alloc (by simp) _) (hb1.mono (by simp)); have HE1 := Lib.hid hb1; simp only [b1]; obtain ⟨a0, a1, a2, az⟩ := box3 HBX.out (Nat.le_refl _))
        | (go_at_call 55; refine (l7Wins_c _ m (opN m L) _ _ _ L _ rfl (hm.later HB1.out) OK.out (hL.later HB1.out) hLl HOP.out).mono ?_; rintro e w2 ⟨rfl, hb2⟩; have HB2 : Hid (Below w.heap.size w w2) := below_then HB1.out hb2; have HBX2 : Hid (Below (w.heap.size + 1) (w.alloc (.cells #[.int .i64 m.size, .slice ad m.doors.length cd, .slice ak m.keys.length ck] 29)) w2) := HBX.out.trans (hb2.mono (by have := HBX.out.size; simpa using this)); have HE2 := Lib.hid (below_then HE1.out hb2); simp only [b3]))
      go_ret2
      exact ⟨_, _, rfl, ic_nil _ _, HB2.out⟩
    case false =>
      have hp' : pHopefulLocks m L = (hopeL m (opN m L) L, true) := by simp [pHopefulLocks, b1, b3]
      rw [hp'] at hp
      simp only [Prod.mk.injEq] at hp
      obtain ⟨hR, rfl⟩ := hp
      have HR := Lib.hid hR
      obtain ⟨O, hO⟩ : ∃ O, O = opN m L := ⟨_, rfl⟩
      rw [← hO] at HOPN HOP HR b3
      have HO := Lib.hid hO
      obtain ⟨nxt, hnxt⟩ : ∃ nxt, nxt = nextL m O L := ⟨_, rfl⟩
      have hnl : nxt.length ≤ 10 := by rw [hnxt]; exact Nat.le_trans (nextL_lks m _ L) (good_lks HG.out)
      have HNXT := Lib.hid hnxt
      obtain ⟨p, hp⟩ : ∃ p : Int → Bool, p = fun k => !stillF m (setN O k) := ⟨_, rfl⟩
      have HPP : Hid (∀ k, p k = !stillF m (setN O k)) := by rw [hp]; exact fun _ => rfl
      have HRK : Hid (R = keepL p nxt) := by rw [← HR.out, hp, hnxt]; rfl
      clear hnxt hp' hR hO hp HR
      go_enter Try.func8, Try.ntmps8
      go_wp2_with (first
        | (go_at_call 54; refine (l7Ask_c _ m _ _ L _ (hm.later (by (repeat (first | exact Below.refl _ _ | apply Below.drew | apply below_drewN | (refine Below.setCell ?_ (by first | omega | (simp; done) | (simp; omega) | (dsimp only; omega)) _) | (refine Below.alloc ?_ (by first | omega | (simp; done) | (simp; omega) | (dsimp only; omega)) _))))) (hL.later (by (repeat (first | exact Below.refl _ _ | apply Below.drew | apply below_drewN | (refine Below.setCell ?_ (by first | omega | (simp; done) | (simp; omega) | (dsimp only; omega)) _) | (refine Below.alloc ?_ (by first | omega | (simp; done) | (simp; omega) | (dsimp only; omega)) _))))) hLl HCAP.out).mono ?_; rintro e w1 ⟨rfl, hb1⟩; obtain ⟨hc1, hf1, hz1⟩ := bcell3 hb1; have HB1 : Hid (Below w.heap.size w w1) := below_then (by (repeat (first | exact Below.refl _ _ | apply Below.drew | apply below_drewN | (refine Below.setCell ?_ (by first | omega | (simp; done) | (simp; omega) | (dsimp only; omega)) _) | (refine Below.alloc ?_ (by first | omega | (simp; done) | (simp; omega) | (dsimp only; omega)) _)))) hb1; have HBX : Hid (Below (w.heap.size + 1) (w.alloc (.cells #[.int .i64 m.size, .slice ad m.doors.length cd, .slice ak m.keys.length ck] 29)) w1) := Below.trans ((Below.refl _ _).alloc (by simp) _) (hb1.mono (by simp)); have HE1 := Lib.hid hb1; simp only [b1]; obtain ⟨a0, a1, a2, az⟩ := box3 HBX.out (Nat.le_refl _))
        | (go_at_call 55; refine (l7Wins_c _ m O _ _ _ L _ rfl (hm.later HB1.out) OK.out (hL.later HB1.out) hLl HOP.out).mono ?_; rintro e w2 ⟨rfl, hb2⟩; have HB2 : Hid (Below w.heap.size w w2) := below_then HB1.out hb2; have HBX2 : Hid (Below (w.heap.size + 1) (w.alloc (.cells #[.int .i64 m.size, .slice ad m.doors.length cd, .slice ak m.keys.length ck] 29)) w2) := HBX.out.trans (hb2.mono (by have := HBX.out.size; simpa using this)); have HE2 := Lib.hid (below_then HE1.out hb2); simp only [b3]; obtain ⟨s0, s1, s2, sz⟩ := box3 HBX2.out (Nat.le_refl _))
        | (go_at_call 56; refine (l7Next_c _ m O _ _ L _ (hm.later HB2.out) OK.out (hL.later HB2.out) (by omega) HOP.out).mono ?_; rintro e w3 ⟨u3, rfl, ho3, hb3⟩; rw [← HNXT.out] at ho3; obtain ⟨a3, c3, rfl⟩ := own_slice ho3; have HO3 : Hid (Own w2.heap.size w3.heap.size w3 3 1 (.slice a3 nxt.length c3) nxt.length (ints nxt)) := Own.of ho3; have HBX3 : Hid (Below (w.heap.size + 1) (w.alloc (.cells #[.int .i64 m.size, .slice ad m.doors.length cd, .slice ak m.keys.length ck] 29)) w3) := HBX2.out.trans (hb3.mono (by have := HBX2.out.size; simpa using this)); have HE3 : Hid (w3.ownsRow (w.heap.size + 1) 3 1 (.slice (some ⟨w.heap.size + 1, 0, none⟩) 0 0) 0 (ints [])) := own_below (own_none (w.alloc (.cells #[.int .i64 m.size, .slice ad m.doors.length cd, .slice ak m.keys.length ck] 29)) (by simp) (by simp)) (below_then HE2.out hb3); clear ho3))
      have hz2 : w.heap.size + 2 ≤ w2.heap.size := by have := HE2.out.size; simpa using this
      have hz3 := hb3.size
      clear hb3 hb2 hb1
      go_loopw [6, 8] (fun u n wr => ∃ go co k : Nat, n = .int .i64 k ∧ k ≤ nxt.length ∧ u = .slice (some ⟨go, 0, none⟩) (keepK p nxt k).length co ∧ (go < w2.heap.size ∨ w3.heap.size ≤ go) ∧ w3.heap.size ≤ wr.heap.size ∧ Hid (wr.ownsRow (w.heap.size + 1) 3 1 (.slice (some ⟨go, 0, none⟩) (keepK p nxt k).length co) (keepK p nxt k).length (ints (keepK p nxt k))) ∧ Hid (Below (w.heap.size + 1) (w.alloc (.cells #[.int .i64 m.size, .slice ad m.doors.length cd, .slice ak m.keys.length ck] 29)) wr) ∧ Hid (Own w2.heap.size w3.heap.size wr 3 1 (.slice a3 nxt.length c3) nxt.length (ints nxt))) (fun _ n _ => nxt.length - (intOf n).toNat)
      case atStart => exact ⟨w.heap.size + 1, 0, 0, rfl, Nat.zero_le _, rfl, by omega, Nat.le_refl _, HE3, HBX3, HO3⟩
      case round =>
        clear HE3 HBX3 HO3
        obtain ⟨wi, rfl⟩ : ∃ wi : World, wi = wr := ⟨_, rfl⟩
        obtain ⟨go, co, k, rfl, hk, rfl, hgo, hzi, HOO, HBB, HON⟩ := hrel
        obtain ⟨q0, q1, q2, z1⟩ := box3 HBB.out (Nat.le_refl _)
        have HBw : Hid (Below w.heap.size w wi) := below_box HBB.out (by omega)
        have hkl := keepK_le p nxt k
        by_cases hlt : k < nxt.length
        · have hkI : (k : Int) < (nxt.length : Int) := by omega
          obtain ⟨b8, off8, xI, ha8, HX, hbs8, e8⟩ := (ic_of HON.out).at k hlt
          subst ha8
          have hmem : xI ∈ nextL m O L := by rw [← HNXT.out, ← HX.out, getElem!_pos nxt k hlt]; exact List.getElem_mem hlt
          have HOX : Hid (Opn m (L ++ [xI]) (setN O xI)) := opn_next HOPN.out hmem
          have hLn : (L ++ [xI]).length = L.length + 1 := by simp
          have HLN := Lib.hid hLn
          have HIK := Lib.hid (hL.later HBw.out)
          have HS2 : Hid (∀ W, Below wi.heap.size wi W → W.cell? ⟨w.heap.size, 0, none⟩ = some (.int .i64 m.size) ∧ W.cell? ⟨w.heap.size, 1, none⟩ = some (.slice ad m.doors.length cd) ∧ W.cell? ⟨w.heap.size, 2, none⟩ = some (.slice ak m.keys.length ck) ∧ W.cell? ⟨b8, off8 + k, none⟩ = some (.int .i64 xI)) := fun W hW => ⟨(hW.cell (p := ⟨w.heap.size, 0, none⟩) z1).trans q0, (hW.cell (p := ⟨w.heap.size, 1, none⟩) z1).trans q1, (hW.cell (p := ⟨w.heap.size, 2, none⟩) z1).trans q2, (hW.cell (p := ⟨b8, off8 + k, none⟩) hbs8).trans e8⟩
          clear hmem hLn
          go_upto_region 8 with fail
          go_cut [38] (fun s wx => s = .bool (stillF m (setN O xI)) ∧ Hid (Below wi.heap.size wi wx))
          case first =>
            go_region_held3 (fun W => W.cell? ⟨w.heap.size, 0, none⟩ = some (.int .i64 m.size) ∧ W.cell? ⟨w.heap.size, 1, none⟩ = some (.slice ad m.doors.length cd) ∧ W.cell? ⟨w.heap.size, 2, none⟩ = some (.slice ak m.keys.length ck) ∧ W.cell? ⟨b8, off8 + k, none⟩ = some (.int .i64 xI))
              (exact HS2.out _ (by repeat (first | exact Below.refl _ _ | exact HB8.out | exact HB5.out | exact HB4.out | apply Below.drew | apply below_drewN | (refine Below.setCell ?_ (by first | omega | (simp; done) | (simp; omega) | (dsimp only; omega)) _) | (refine Below.alloc ?_ (by first | omega | (simp; done) | (simp; omega) | (dsimp only; omega)) _))))
              (first
                | (go_at_call 58; refine (l1Own_c _ _ _ L _ rfl (HIK.out.later (by repeat (first | exact Below.refl _ _ | apply Below.drew | apply below_drewN | (refine Below.setCell ?_ (by first | omega | (simp; done) | (simp; omega) | (dsimp only; omega)) _) | (refine Below.alloc ?_ (by first | omega | (simp; done) | (simp; omega) | (dsimp only; omega)) _)))) (by omega)).mono ?_; rintro e w4 ⟨v4, rfl, ho4, hb4⟩; obtain ⟨a4, c4, rfl⟩ := own_slice ho4; have HB4 : Hid (Below wi.heap.size wi w4) := Below.trans (by repeat (first | exact Below.refl _ _ | apply Below.drew | apply below_drewN | (refine Below.setCell ?_ (by first | omega | (simp; done) | (simp; omega) | (dsimp only; omega)) _) | (refine Below.alloc ?_ (by first | omega | (simp; done) | (simp; omega) | (dsimp only; omega)) _))) (hb4.mono (by first | exact Nat.le_refl _ | (simp; done) | (simp; omega))); have HO4 : Hid (w4.ownsRow wi.heap.size 3 1 (.slice a4 L.length c4) L.length (ints L)) := (Own.mono (Own.of ho4) (by first | exact Nat.le_refl _ | (simp; done) | (simp; omega)) (Nat.le_refl _)).row; obtain ⟨hc4, hf4, hz4⟩ := bcell3 hb4; (try simp only [World.size_alloc, World.size_drew] at hz4 hc4 hf4); have hz4' : wi.heap.size ≤ w4.heap.size := HB4.out.size; clear ho4 hb4)
                | (refine step_append_below _ wi wi.heap.size (by repeat (first | exact Below.refl _ _ | exact HB4.out | apply Below.drew | apply below_drewN | (refine Below.setCell ?_ (by first | omega | (simp; done) | (simp; omega) | (dsimp only; omega)) _) | (refine Below.alloc ?_ (by first | omega | (simp; done) | (simp; omega) | (dsimp only; omega)) _))) (by rfl) _ _ 23 (by rfl) 3 i0 (.int .i64 0) 1 8 Try.underlying23 ji jz0 jz1 jz2 rfl (by decide) (.slice a4 L.length c4) L.length (ints L) (by rfl) (HO4.out.alloc _) ⟨w4.heap.size, 0, none⟩ 1 1 [.int .i64 xI] (by rfl) rfl (news_one (by simp [go_sem])) (by simp [Value.oneCell']) (by unfold maxLen; omega) (by omega) (by first | omega | (simp; omega)) ?_; intro v5 w5 hown5 hg5 hB5; have HB5 := Lib.hid hB5; have HO5 := Lib.hid hown5; clear hown5 hg5 hB5)
                | (refine step_append_below _ wi wi.heap.size (by repeat (first | exact Below.refl _ _ | exact HB4.out | apply Below.drew | apply below_drewN | (refine Below.setCell ?_ (by first | omega | (simp; done) | (simp; omega) | (dsimp only; omega)) _) | (refine Below.alloc ?_ (by first | omega | (simp; done) | (simp; omega) | (dsimp only; omega)) _))) (by rfl) _ _ 23 (by rfl) 3 i0 (.int .i64 0) 1 8 Try.underlying23 ji jz0 jz1 jz2 rfl (by decide) (.slice a4 L.length c4) L.length (ints L) (by rfl) HO4.out ⟨wi.heap.size, 0, none⟩ 1 1 [.int .i64 xI] (by rfl) rfl (news_one (by rw [hc4 _ _ (by omega)]; simp [go_sem])) (by simp [Value.oneCell']) (by unfold maxLen; omega) (by omega) (by first | omega | (simp; omega)) ?_; intro v5 w5 hown5 hg5 hB5; have HB5 := Lib.hid hB5; have HO5 := Lib.hid hown5; clear hown5 hg5 hB5)
                | (obtain ⟨gn, cn, rfl, -, -⟩ := own_someD HO5.out (by omega); go_at_call 57; refine (l7Hope_c _ m _ _ _ (L ++ [xI]) (setN O xI) _ HLN.out.symm ((hm.later HBw.out).later (by repeat (first | exact Below.refl _ _ | exact HB5.out | apply Below.drew | apply below_drewN | (refine Below.setCell ?_ (by first | omega | (simp; done) | (simp; omega) | (dsimp only; omega)) _) | (refine Below.alloc ?_ (by first | omega | (simp; done) | (simp; omega) | (dsimp only; omega)) _)))) HG.out ((ic_of' (Own.of (by rw [ints_snoc]; exact HO5.out)) HLN.out.symm).later (by (repeat (first | exact Below.refl _ _ | apply Below.drew | apply below_drewN | (refine Below.setCell ?_ (by first | omega | (simp; done) | (simp; omega) | (dsimp only; omega)) _) | (refine Below.alloc ?_ (by first | omega | (simp; done) | (simp; omega) | (dsimp only; omega)) _))))) HOX.out).mono ?_; rintro e w8 ⟨rfl, hb8⟩; have HB8 : Hid (Below wi.heap.size wi w8) := Below.trans (by repeat (first | exact Below.refl _ _ | exact HB5.out | apply Below.drew | apply below_drewN | (refine Below.setCell ?_ (by first | omega | (simp; done) | (simp; omega) | (dsimp only; omega)) _) | (refine Below.alloc ?_ (by first | omega | (simp; done) | (simp; omega) | (dsimp only; omega)) _))) (hb8.mono (by have := HB5.out.size; first | omega | (simp; omega))); clear hb8))
            all_goals
              go_wp2_with fail
              go_meet
              case rel => exact ⟨rfl, HB8⟩
          case rest =>
            obtain ⟨rfl, HBC⟩ := hcut
            have hzc := HBC.out.size
            have HOO2 := Lib.hid (own_below HOO.out HBC.out)
            have HBB2 : Hid (Below (w.heap.size + 1) (w.alloc (.cells #[.int .i64 m.size, .slice ad m.doors.length cd, .slice ak m.keys.length ck] 29)) wc) := HBB.out.trans (HBC.out.mono (by omega))
            have HON2 : Hid (Own w2.heap.size w3.heap.size wc 3 1 (.slice (some ⟨b8, off8, none⟩) nxt.length c3) nxt.length (ints nxt)) := HON.out.later HBC.out hzi
            obtain ⟨t0, t1, t2, t8⟩ := HS2.out _ HBC.out
            have hgoz : go < wc.heap.size := (Own.of HOO2.out).top go rfl
            have hgol := own_block_lo HOO2.out (g := go) rfl
            clear HOO HBB HON HS2 q0 q1 q2 e8
            cases hs : stillF m (setN O xI)
            case false =>
              have HK : Hid (keepK p nxt (k + 1) = keepK p nxt k) := keepK_no hlt (by rw [HX.out, HPP.out, hs]; rfl)
              clear hs
              go_wp2
              go_roundw
              case rel => exact ⟨go, co, k + 1, by go_num, by omega, by rw [HK.out], hgo, by omega, by rw [HK.out]; exact HOO2, HBB2, HON2⟩
              case measure => simp [intOf]; omega
            case true =>
              have HK : Hid (keepK p nxt (k + 1) = keepK p nxt k ++ [xI]) := (by have := keepK_yes hlt (p := p) (by rw [HX.out, HPP.out, hs]; rfl); rwa [HX.out] at this)
              clear hs
              go_wp2_with (at_builtin; refine wpList_append_lies _ rfl _ _ 23 rfl (w.heap.size + 1) 3 i0 (.int .i64 0) 1 8 Try.underlying23 ji jz0 jz1 jz2 rfl (by decide) (.slice (some ⟨go, 0, none⟩) (keepK p nxt k).length co) _ _ rfl (HOO2.out.alloc _) ⟨wc.heap.size, 0, none⟩ 1 1 [.int .i64 xI] rfl rfl ?_ ?_ (by omega) ?_ ?_ ?_ (wc.heap.size + 1) ?_ ?_; (exact cell_one_new _ _ _); (simp [Value.oneCell']); (unfold maxLen; omega); omega; (simp; omega); (simp); intro g5 c5 w5 hown5 hgrow5 hat5 hlt5)
              have hA : Below wc.heap.size wc (wc.alloc (.cells #[.int .i64 xI] 3)) := (Below.refl _ _).alloc (Nat.le_refl _) _
              have HO5 : Hid (w5.ownsRow (w.heap.size + 1) 3 1 (.slice (some ⟨g5, 0, none⟩) ((keepK p nxt k).length + 1) c5) ((keepK p nxt k).length + 1) (ints (keepK p nxt k ++ [xI]))) := by rw [ints_snoc]; exact hown5
              have HG5 := Lib.hid hgrow5
              have hz5 : wc.heap.size + 1 ≤ w5.heap.size := by have := hgrow5.size; simpa using this
              have HBB5 : Hid (Below (w.heap.size + 1) (w.alloc (.cells #[.int .i64 m.size, .slice ad m.doors.length cd, .slice ak m.keys.length ck] 29)) w5) := Below.grown (HBB2.out.trans (hA.mono (by omega))) hgrow5 (by have := HBB2.out.size; simp at this; simp; omega) (fun b hb => by cases hb; omega)
              have HON5 : Hid (Own w2.heap.size w3.heap.size w5 3 1 (.slice (some ⟨b8, off8, none⟩) nxt.length c3) nxt.length (ints nxt)) := (HON2.out.later hA (by omega)).grown hgrow5 (fun g hg => by cases hg; omega)
              have hg5 : g5 < w2.heap.size ∨ w3.heap.size ≤ g5 := by rcases hat5 with h | h <;> first | omega | (have hge : go = g5 := (by simpa [Value.ownBlock] using h); omega)
              clear hown5 hgrow5 hat5
              go_wp2
              go_roundw
              case rel => exact ⟨g5, c5, k + 1, by go_num, by omega, by rw [HK.out]; simp, hg5, by omega, by rw [HK.out]; simpa using HO5, HBB5, HON5⟩
              case measure => simp [intOf]; omega
        · obtain rfl : k = nxt.length := by omega
          have HF : Hid (IC wi (some ⟨go, 0, none⟩) R) := by
            have := ic_of (Own.of HOO.out)
            rwa [keepK_all, ← HRK.out] at this
          have HRL : Hid ((keepK p nxt nxt.length).length = R.length) := by show _ = _; rw [keepK_all, ← HRK.out]
          go_wp2
          rw [HRL.out]
          go_ret2
          exact ⟨_, _, rfl, HF.out, HBw.out⟩
end Go.Proofs.Ytbaahghfjmkeoaa
