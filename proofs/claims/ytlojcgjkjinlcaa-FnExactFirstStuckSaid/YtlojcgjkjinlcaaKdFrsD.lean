/- The reference's functions on openings that are stuck. -/
import Derived.Test.YtlojcgjkjinlcaaKdFrsC
set_option linter.unusedVariables false
set_option linter.unusedSimpArgs false
namespace Go.Proofs.Ytlojcgjkjinlcaa
open Go.RowKit Go.KD
attribute [local go_sem] later_cell later_frozen
set_option maxHeartbeats 4000000 in
theorem l7Stuck_c (v : Value) (m : Mz) (E : List En) (w : World) (hE : E = srZ m) (hg : goodB m = true) (hm : MzAt w v m) : Calls Try.prog 78 #[v] w fun e w' => ∃ aw cw, e = .returned (.tuple #[.slice aw ((fstE E (stuckP m)).getD []).length cw, .bool (fstE E (stuckP m)).isSome]) ∧ IC w' aw ((fstE E (stuckP m)).getD []) ∧ Below w.heap.size w w' := by
  have hM := hm
  obtain ⟨⟨ad, cd, ak, ck, rfl, hd, hk'⟩, nd, nk⟩ := hM
  have HE := Lib.hid hE
  have HEO : Hid (SrOk m E) := by rw [hE]; exact srZ_ok m
  have hle : E.length ≤ 1024 := by rw [hE]; exact srZ_le hg
  have HG := Lib.hid hg
  clear hE hg
  all_goals
    go_enter Try.func78, Try.ntmps78
    obtain ⟨w1, hw1⟩ : ∃ w1, w1 = w.alloc (.cells #[.int .i64 m.size, .slice ad m.doors.length cd, .slice ak m.keys.length ck] 29) := ⟨_, rfl⟩
    have hb1 : Below w.heap.size w w1 := by rw [hw1]; exact (Below.refl _ _).alloc (Nat.le_refl _) _
    have HB1 := Lib.hid hb1
    have HC1 : Hid (w1.cell? ⟨w.heap.size, 0, none⟩ = some (.int .i64 m.size) ∧ w1.cell? ⟨w.heap.size, 1, none⟩ = some (.slice ad m.doors.length cd) ∧ w1.cell? ⟨w.heap.size, 2, none⟩ = some (.slice ak m.keys.length ck) ∧ w.heap.size < w1.heap.size) := by
      rw [hw1]; exact ⟨by simp [go_sem], by simp [go_sem], by simp [go_sem], by simp⟩
    go_wp2_with fail
    rw [← hw1]
    clear hw1 hb1
    refine (l7Search_c _ m _ _ _ [] 0 _ rfl (hm.later (HB1.out.alloc HB1.out.size _)) HG.out (ic_nil _ _) (opn_nil m)).mono ?_
    rintro e w2 ⟨g, c, gc, cc, vs, rfl, ⟨lo, xx, yy, hr2⟩, -, hb2⟩
    rw [srZ_def, ← HE.out] at hr2 ⊢
    have HR2 := Lib.hid hr2
    have HB2 : Hid (Below w1.heap.size w1 w2) := Below.trans ((Below.refl _ _).alloc (Nat.le_refl _) _) (hb2.mono (by simp))
    have hz2 := HB2.out.size
    obtain ⟨q0, q1, q2, hz⟩ := HC1.out
    have r0 := (HB2.out.cell (p := ⟨w.heap.size, 0, none⟩) hz).trans q0
    have r1 := (HB2.out.cell (p := ⟨w.heap.size, 1, none⟩) hz).trans q1
    have r2 := (HB2.out.cell (p := ⟨w.heap.size, 2, none⟩) hz).trans q2
    clear hr2 hb2 q0 q1 q2
    have HBS : Hid (Below (w2.heap.size + 1) (w2.alloc (.cells #[.slice (some ⟨g, 0, none⟩) E.length c, .slice (some ⟨gc, 0, none⟩) E.length cc] 59)) (w2.alloc (.cells #[.slice (some ⟨g, 0, none⟩) E.length c, .slice (some ⟨gc, 0, none⟩) E.length cc] 59))) := Below.refl _ _
    have HS : Hid (∀ W, Below (w2.heap.size + 1) (w2.alloc (.cells #[.slice (some ⟨g, 0, none⟩) E.length c, .slice (some ⟨gc, 0, none⟩) E.length cc] 59)) W → w2.heap.size < W.heap.size ∧ Below w.heap.size w W ∧ (W.cell? ⟨w.heap.size, 0, none⟩ = some (.int .i64 m.size) ∧ W.cell? ⟨w.heap.size, 1, none⟩ = some (.slice ad m.doors.length cd) ∧ W.cell? ⟨w.heap.size, 2, none⟩ = some (.slice ak m.keys.length ck) ∧ W.cell? ⟨w2.heap.size, 0, none⟩ = some (.slice (some ⟨g, 0, none⟩) E.length c)) ∧ RwS false W lo 23 3 g c xx yy vs (lisE E)) := by
      intro W hW
      have hb : Below w2.heap.size w2 W := ((Below.refl _ _).alloc (Nat.le_refl _) _).trans (hW.mono (by omega))
      refine ⟨by have := hW.size; simp at this; omega, below_then (below_then HB1.out HB2.out) hb, ⟨(hb.cell (p := ⟨w.heap.size, 0, none⟩) (by show w.heap.size < _; omega)).trans r0, (hb.cell (p := ⟨w.heap.size, 1, none⟩) (by show w.heap.size < _; omega)).trans r1, (hb.cell (p := ⟨w.heap.size, 2, none⟩) (by show w.heap.size < _; omega)).trans r2, (hW.cell (p := ⟨w2.heap.size, 0, none⟩) (by show w2.heap.size < _; omega)).trans (by simp [go_sem])⟩, HR2.out.later hb⟩
    clear r0 r1 r2 HR2
    go_wp2_with fail
    go_loopw [5] (fun i wr => ∃ k : Nat, i = .int .i64 k ∧ k ≤ E.length ∧ Hid (Below (w2.heap.size + 1) (w2.alloc (.cells #[.slice (some ⟨g, 0, none⟩) E.length c, .slice (some ⟨gc, 0, none⟩) E.length cc] 59)) wr) ∧ Hid (∀ j, j < k → stuckP m (E[j]!).2 = false)) (fun i _ => E.length - (intOf i).toNat)
    case atStart => exact ⟨0, rfl, Nat.zero_le _, HBS, fun j hj => by omega⟩
    case round =>
      clear HBS
      obtain ⟨wo, rfl⟩ : ∃ wo : World, wo = wr := ⟨_, rfl⟩
      obtain ⟨k, rfl, hk, HBO, HP⟩ := hrel
      obtain ⟨hzo, hbo, ⟨q0, q1, q2, q3⟩, hrow⟩ := HS.out wo HBO.out
      have HBW := Lib.hid hbo
      clear hbo
      by_cases hlt : k < E.length
      · have hkI : (k : Int) < (E.length : Int) := by omega
        obtain ⟨Lk, hLk⟩ : ∃ Lk, Lk = (E[k]!).1 := ⟨_, rfl⟩
        obtain ⟨Ok, hOk⟩ : ∃ Ok, Ok = (E[k]!).2 := ⟨_, rfl⟩
        have HOPk : Hid (Opn m Lk Ok) := by
          show Opn m Lk Ok
          rw [hLk, hOk]
          exact HEO.out.all E[k]! (by rw [getElem!_pos E k hlt]; exact List.getElem_mem hlt)
        have HLK := Lib.hid hLk
        have HOK2 := Lib.hid hOk
        have hLk30 := opn_len (good_ok HG.out) HOPk.out
        have he := hrow.each k (by simpa using hlt)
        rw [lisE_at hlt, ← hLk] at he
        obtain ⟨aK, cK, hvk, hik⟩ := he.ic
        have ek := hrow.cell (i := k) (by simpa using hlt)
        rw [hvk] at ek
        have hgz := hrow.gs
        have HIK := Lib.hid hik
        have hzl : w.heap.size < wo.heap.size := by omega
        have HS2 : Hid (∀ W, Below wo.heap.size wo W → W.cell? ⟨w.heap.size, 0, none⟩ = some (.int .i64 m.size) ∧ W.cell? ⟨w.heap.size, 1, none⟩ = some (.slice ad m.doors.length cd) ∧ W.cell? ⟨w.heap.size, 2, none⟩ = some (.slice ak m.keys.length ck) ∧ W.cell? ⟨w2.heap.size, 0, none⟩ = some (.slice (some ⟨g, 0, none⟩) E.length c) ∧ W.cell? ⟨g, k, none⟩ = some (.slice aK Lk.length cK)) := fun W hW => ⟨(hW.cell (p := ⟨w.heap.size, 0, none⟩) hzl).trans q0, (hW.cell (p := ⟨w.heap.size, 1, none⟩) hzl).trans q1, (hW.cell (p := ⟨w.heap.size, 2, none⟩) hzl).trans q2, (hW.cell (p := ⟨w2.heap.size, 0, none⟩) hzo).trans q3, (hW.cell (p := ⟨g, k, none⟩) hgz).trans ek⟩
        clear hLk hOk he hvk hik hrow
        go_upto_region 5 with fail
        go_cut [34] (fun s wx => s = .bool (stuckP m Ok) ∧ Hid (Below wo.heap.size wo wx))
        case first =>
          by_cases hww : wonB m Ok = true
          · have HSP : Hid (stuckP m Ok = false) := by show _ = _; rw [stuck_at (opn_ok (good_ok HG.out) HOPk.out), hww]; rfl
            refine wp_region_held_drew (S := (fun W => W.cell? ⟨w.heap.size, 0, none⟩ = some (.int .i64 m.size) ∧ W.cell? ⟨w.heap.size, 1, none⟩ = some (.slice ad m.doors.length cd) ∧ W.cell? ⟨w.heap.size, 2, none⟩ = some (.slice ak m.keys.length ck) ∧ W.cell? ⟨w2.heap.size, 0, none⟩ = some (.slice (some ⟨g, 0, none⟩) E.length c) ∧ W.cell? ⟨g, k, none⟩ = some (.slice aK Lk.length cK))) (by kernel_rfl) (HS2.out _ (Below.refl _ _).drew) (fun hHeld => ?_)
            refine wpAnyH_take (i := 0) (oi := Oper.mk _ _ _ _ _ _) (v := ?v0) rfl (by kernel_rfl) (by kernel_rfl) (by kernel_rfl) (fun _ _ _ h => h) (Or.inl ⟨by kernel_rfl, ?y0⟩) (by assumption) ?r0
            case y0 =>
              intro w hSw
              (try dsimp only at hSw)
              go_simp
              all_goals with_reducible rfl
            (try simp only [Act.put, List.setIfInBounds_toArray, List.set_cons_zero, List.set_cons_succ])
            refine wpAnyH_take (i := 1) (oi := Oper.mk _ _ _ _ _ _) (v := ?v1) rfl (by kernel_rfl) (by kernel_rfl) (by kernel_rfl) (fun _ _ _ h => h) (Or.inl ⟨by kernel_rfl, ?y1⟩) (by assumption) ?r1
            case y1 =>
              intro w hSw
              (try dsimp only at hSw)
              go_simp
              all_goals with_reducible rfl
            (try simp only [Act.put, List.setIfInBounds_toArray, List.set_cons_zero, List.set_cons_succ])
            refine wpAnyH_take (i := 2) (oi := Oper.mk _ _ _ _ _ _) (v := ?v2) rfl (by kernel_rfl) (by kernel_rfl) (by kernel_rfl) (fun _ _ _ h => h) (Or.inl ⟨by kernel_rfl, ?y2⟩) (by assumption) ?r2
            case y2 =>
              intro w hSw
              (try dsimp only at hSw)
              go_simp
              all_goals with_reducible rfl
            (try simp only [Act.put, List.setIfInBounds_toArray, List.set_cons_zero, List.set_cons_succ])
            refine wpAnyH_take (i := 3) (oi := Oper.mk _ _ _ _ _ _) (v := ?v3) rfl (by kernel_rfl) (by kernel_rfl) (by kernel_rfl) (fun _ _ _ h => h) (Or.inl ⟨by kernel_rfl, ?y3⟩) (by assumption) ?r3
            case y3 =>
              intro w hSw
              (try dsimp only at hSw)
              go_simp
              all_goals with_reducible rfl
            (try simp only [Act.put, List.setIfInBounds_toArray, List.set_cons_zero, List.set_cons_succ])
            refine wpAnyH_take (i := 4) (oi := Oper.mk _ _ _ _ _ _) (v := ?v4) rfl (by kernel_rfl) (by kernel_rfl) (by kernel_rfl) (fun _ _ _ h => h) (Or.inl ⟨by kernel_rfl, ?y4⟩) (by assumption) ?r4
            case y4 =>
              intro w hSw
              (try dsimp only at hSw)
              go_simp
              all_goals with_reducible rfl
            (try simp only [Act.put, List.setIfInBounds_toArray, List.set_cons_zero, List.set_cons_succ])
            refine wpAnyH_take (i := 5) (oi := Oper.mk _ _ _ _ _ _) (v := ?v5) rfl (by kernel_rfl) (by kernel_rfl) (by kernel_rfl) (fun _ _ _ h => h) (Or.inl ⟨by kernel_rfl, ?y5⟩) (by assumption) ?r5
            case y5 =>
              intro w hSw
              (try dsimp only at hSw)
              go_simp
              all_goals with_reducible rfl
            (try simp only [Act.put, List.setIfInBounds_toArray, List.set_cons_zero, List.set_cons_succ])
            refine wpAnyH_ready (rs := [6]) (by kernel_rfl) (by simp) ?_
            refine AllReadyH.cons rfl (fun K hK => ?_) AllReadyH.nil
            go_simp
            refine (l7Wins_c _ m Ok _ _ _ Lk _ rfl ((hm.later HBW.out).later (Below.refl _ _).drew) (good_ok HG.out) (HIK.out.later (Below.refl _ _).drew) (by omega) (opn_ok (good_ok HG.out) HOPk.out)).mono ?_
            rintro e w8 ⟨rfl, hb8⟩
            have HB8 : Hid (Below wo.heap.size wo w8) := (Below.refl _ _).drew.trans hb8
            clear hb8
            simp only [hww]
            refine hK.out _ _ (HS2.out _ HB8.out) (fun hHeld => ?_)
            (try simp only [Act.put, List.setIfInBounds_toArray, List.set_cons_zero, List.set_cons_succ])
            refine wpAnyH_take (i := 7) (oi := Oper.mk _ _ _ _ _ _) (v := ?v7) rfl (by kernel_rfl) (by kernel_rfl) (by kernel_rfl) (fun _ _ _ h => h) (Or.inl ⟨by kernel_rfl, ?y7⟩) (by assumption) ?r7
            case y7 =>
              intro w hSw
              (try dsimp only at hSw)
              go_simp
              all_goals with_reducible rfl
            (try simp only [Act.put, List.setIfInBounds_toArray, List.set_cons_zero, List.set_cons_succ])
            refine wpAnyH_take (i := 8) (oi := Oper.mk _ _ _ _ _ _) (v := ?v8) rfl (by kernel_rfl) (by kernel_rfl) (by kernel_rfl) (fun _ _ _ h => h) (Or.inl ⟨by kernel_rfl, ?y8⟩) (by assumption) ?r8
            case y8 =>
              intro w hSw
              (try dsimp only at hSw)
              go_simp
              all_goals with_reducible rfl
            (try simp only [Act.put, List.setIfInBounds_toArray, List.set_cons_zero, List.set_cons_succ])
            refine wpAnyH_take (i := 9) (oi := Oper.mk _ _ _ _ _ _) (v := undef) rfl (by kernel_rfl) (by kernel_rfl) (by kernel_rfl) (fun _ _ _ h => h) (Or.inr ⟨by kernel_rfl, rfl⟩) (by assumption) ?_
            (try simp only [Act.put, List.setIfInBounds_toArray, List.set_cons_zero, List.set_cons_succ])
            refine wpAnyH_take (i := 10) (oi := Oper.mk _ _ _ _ _ _) (v := undef) rfl (by kernel_rfl) (by kernel_rfl) (by kernel_rfl) (fun _ _ _ h => h) (Or.inr ⟨by kernel_rfl, rfl⟩) (by assumption) ?_
            (try simp only [Act.put, List.setIfInBounds_toArray, List.set_cons_zero, List.set_cons_succ])
            refine wpAnyH_take (i := 11) (oi := Oper.mk _ _ _ _ _ _) (v := undef) rfl (by kernel_rfl) (by kernel_rfl) (by kernel_rfl) (fun _ _ _ h => h) (Or.inr ⟨by kernel_rfl, rfl⟩) (by assumption) ?_
            (try simp only [Act.put, List.setIfInBounds_toArray, List.set_cons_zero, List.set_cons_succ])
            refine wpAnyH_take (i := 12) (oi := Oper.mk _ _ _ _ _ _) (v := undef) rfl (by kernel_rfl) (by kernel_rfl) (by kernel_rfl) (fun _ _ _ h => h) (Or.inr ⟨by kernel_rfl, rfl⟩) (by assumption) ?_
            (try simp only [Act.put, List.setIfInBounds_toArray, List.set_cons_zero, List.set_cons_succ])
            refine wpAnyH_take (i := 13) (oi := Oper.mk _ _ _ _ _ _) (v := undef) rfl (by kernel_rfl) (by kernel_rfl) (by kernel_rfl) (fun _ _ _ h => h) (Or.inr ⟨by kernel_rfl, rfl⟩) (by assumption) ?_
            (try simp only [Act.put, List.setIfInBounds_toArray, List.set_cons_zero, List.set_cons_succ])
            refine wpAnyH_take (i := 14) (oi := Oper.mk _ _ _ _ _ _) (v := undef) rfl (by kernel_rfl) (by kernel_rfl) (by kernel_rfl) (fun _ _ _ h => h) (Or.inr ⟨by kernel_rfl, rfl⟩) (by assumption) ?_
            (try simp only [Act.put, List.setIfInBounds_toArray, List.set_cons_zero, List.set_cons_succ])
            refine wpAnyH_take (i := 15) (oi := Oper.mk _ _ _ _ _ _) (v := undef) rfl (by kernel_rfl) (by kernel_rfl) (by kernel_rfl) (fun _ _ _ h => h) (Or.inr ⟨by kernel_rfl, rfl⟩) (by assumption) ?_
            (try simp only [Act.put, List.setIfInBounds_toArray, List.set_cons_zero, List.set_cons_succ])
            refine wpAnyH_take (i := 16) (oi := Oper.mk _ _ _ _ _ _) (v := undef) rfl (by kernel_rfl) (by kernel_rfl) (by kernel_rfl) (fun _ _ _ h => h) (Or.inr ⟨by kernel_rfl, rfl⟩) (by assumption) ?_
            (try simp only [Act.put, List.setIfInBounds_toArray, List.set_cons_zero, List.set_cons_succ])
            refine wpAnyH_take (i := 17) (oi := Oper.mk _ _ _ _ _ _) (v := undef) rfl (by kernel_rfl) (by kernel_rfl) (by kernel_rfl) (fun _ _ _ h => h) (Or.inr ⟨by kernel_rfl, rfl⟩) (by assumption) ?_
            (try simp only [Act.put, List.setIfInBounds_toArray, List.set_cons_zero, List.set_cons_succ])
            refine wpAnyH_take (i := 18) (oi := Oper.mk _ _ _ _ _ _) (v := ?v18) rfl (by kernel_rfl) (by kernel_rfl) (by kernel_rfl) (fun _ _ _ h => h) (Or.inl ⟨by kernel_rfl, ?y18⟩) (by assumption) ?r18
            case y18 =>
              intro w hSw
              (try dsimp only at hSw)
              go_simp
              all_goals with_reducible rfl
            (try simp only [Act.put, List.setIfInBounds_toArray, List.set_cons_zero, List.set_cons_succ])
            refine wpAnyH_done (by kernel_rfl) ?_ _
            all_goals
              go_wp2_with fail
              go_meet
              case rel => exact ⟨by rw [HSP.out], HB8⟩
          · have hww : wonB m Ok = false := by simpa using hww
            obtain ⟨nn, hnn⟩ : ∃ nn, nn = (nextL m Ok Lk).length := ⟨_, rfl⟩
            have HSP : Hid (stuckP m Ok = decide (nn = 0)) := by show _ = _; rw [stuck_at (opn_ok (good_ok HG.out) HOPk.out), hww, hnn]; rfl
            obtain ⟨bb, hbb⟩ : ∃ bb, bb = decide (nn = 0) := ⟨_, rfl⟩
            have hbI : ((nn : Int) == 0) = bb := by rw [hbb]; by_cases h : nn = 0 <;> simp [h]
            rw [← hbb] at HSP
            have HNN := Lib.hid hnn
            have HBB := Lib.hid hbb
            clear hnn
            go_region_held3 (fun W => W.cell? ⟨w.heap.size, 0, none⟩ = some (.int .i64 m.size) ∧ W.cell? ⟨w.heap.size, 1, none⟩ = some (.slice ad m.doors.length cd) ∧ W.cell? ⟨w.heap.size, 2, none⟩ = some (.slice ak m.keys.length ck) ∧ W.cell? ⟨w2.heap.size, 0, none⟩ = some (.slice (some ⟨g, 0, none⟩) E.length c) ∧ W.cell? ⟨g, k, none⟩ = some (.slice aK Lk.length cK))
              (exact HS2.out _ (by repeat (first | exact Below.refl _ _ | exact HB9.out | exact HB8.out | apply Below.drew | apply below_drewN | (refine Below.setCell ?_ (by first | omega | (simp; done) | (simp; omega) | (dsimp only; omega)) _) | (refine Below.alloc ?_ (by first | omega | (simp; done) | (simp; omega) | (dsimp only; omega)) _))))
              (first
                | (go_at_call 60; refine (l7Wins_c _ m Ok _ _ _ Lk _ rfl ((hm.later HBW.out).later (by repeat (first | exact Below.refl _ _ | apply Below.drew | apply below_drewN | (refine Below.setCell ?_ (by first | omega | (simp; done) | (simp; omega) | (dsimp only; omega)) _) | (refine Below.alloc ?_ (by first | omega | (simp; done) | (simp; omega) | (dsimp only; omega)) _)))) (good_ok HG.out) (HIK.out.later (by repeat (first | exact Below.refl _ _ | apply Below.drew | apply below_drewN | (refine Below.setCell ?_ (by first | omega | (simp; done) | (simp; omega) | (dsimp only; omega)) _) | (refine Below.alloc ?_ (by first | omega | (simp; done) | (simp; omega) | (dsimp only; omega)) _)))) (by omega) (opn_ok (good_ok HG.out) HOPk.out)).mono ?_; rintro e w8 ⟨rfl, hb8⟩; have HB8 : Hid (Below wo.heap.size wo w8) := (Below.refl _ _).drew.trans hb8; clear hb8; simp only [hww])
                | (go_at_call 69; refine (l7NextN_c _ m Ok _ _ _ Lk _ rfl ((hm.later HBW.out).later (by repeat (first | exact Below.refl _ _ | exact HB8.out | apply Below.drew | apply below_drewN | (refine Below.setCell ?_ (by first | omega | (simp; done) | (simp; omega) | (dsimp only; omega)) _) | (refine Below.alloc ?_ (by first | omega | (simp; done) | (simp; omega) | (dsimp only; omega)) _)))) (good_ok HG.out) (HIK.out.later (by repeat (first | exact Below.refl _ _ | exact HB8.out | apply Below.drew | apply below_drewN | (refine Below.setCell ?_ (by first | omega | (simp; done) | (simp; omega) | (dsimp only; omega)) _) | (refine Below.alloc ?_ (by first | omega | (simp; done) | (simp; omega) | (dsimp only; omega)) _)))) (by omega) (opn_ok (good_ok HG.out) HOPk.out)).mono ?_; rintro e w9 ⟨u9, rfl, ho9, hb9⟩; obtain ⟨a9, c9, rfl⟩ := own_slice ho9; have HB9 : Hid (Below wo.heap.size wo w9) := below_then HB8.out hb9; clear ho9 hb9; rw [← HNN.out]))
            all_goals
              go_wp2_with fail
              go_meet
              case rel => exact ⟨by rw [HSP.out]; first | rfl | (rw [HBB.out]), HB9⟩
        case rest =>
          obtain ⟨rfl, HBC⟩ := hcut
          obtain ⟨t0, t1, t2, t3, t4⟩ := HS2.out _ HBC.out
          clear q0 q1 q2 q3 ek HS2
          cases hw : stuckP m Ok
          case false =>
            have HPK : Hid (∀ j, j < k + 1 → stuckP m (E[j]!).2 = false) := by
              intro j hj
              rcases Nat.lt_or_ge j k with h | h
              · exact HP.out j h
              · obtain rfl : j = k := by omega
                rw [← HOK2.out]; exact hw
            clear hw
            go_wp2
            go_roundw
            case rel => exact ⟨k + 1, by go_num, by omega, HBO.out.trans (HBC.out.mono (by omega)), HPK⟩
            case measure => simp [intOf]; omega
          case true =>
            have HF : Hid (fstE E (stuckP m) = some Lk) := by
              show _ = _
              rw [fstE_at hlt HP.out (by rw [← HOK2.out]; exact hw), ← HLK.out]
            clear hw
            have HIF := Lib.hid (HIK.out.later HBC.out)
            go_wp2
            go_ret2
            rw [HF.out]
            exact ⟨_, _, rfl, HIF.out, below_then HBW.out HBC.out⟩
      · obtain rfl : k = E.length := by omega
        have HF : Hid (fstE E (stuckP m) = none) := fstE_none HP.out
        have HBF := Lib.hid (HBW.out.alloc HBW.out.size (.cells #[] 3))
        go_wp2
        go_ret2
        rw [HF.out]
        exact ⟨_, _, rfl, ic_nil _ _, HBF.out⟩
end Go.Proofs.Ytlojcgjkjinlcaa

namespace Go.Proofs.Ytlojcgjkjinlcaa
open Go.RowKit Go.KD
attribute [local go_sem] later_cell later_frozen
theorem specFirstStuck_c (v : Value) (m : Mz) (w : World) (R : List Int) (b : Bool) (hp : pFirstStuck m = (R, b)) (hm : MzAt w v m) : Calls Try.prog 42 #[v] w fun e w' => ∃ aw cw, e = .returned (.tuple #[.slice aw R.length cw, .bool b]) ∧ IC w' aw R ∧ Below w.heap.size w w' := by
  have hM := hm
  obtain ⟨⟨ad, cd, ak, ck, rfl, hd, hk'⟩, nd, nk⟩ := hM
  cases b1 : goodB m
  · simp only [pFirstStuck, b1] at hp
    cases hp
    go_enter Try.func42, Try.ntmps42
    go_wp2_with (go_at_call 53; refine (l7Good_c _ m _ (hm.later (by (repeat (first | exact Below.refl _ _ | apply Below.drew | apply below_drewN | (refine Below.setCell ?_ (by first | omega | (simp; done) | (simp; omega) | (dsimp only; omega)) _) | (refine Below.alloc ?_ (by first | omega | (simp; done) | (simp; omega) | (dsimp only; omega)) _)))))).mono ?_; rintro e w1 ⟨rfl, hb1⟩; have HB1 : Hid (Below w.heap.size w w1) := below_then (by (repeat (first | exact Below.refl _ _ | apply Below.drew | apply below_drewN | (refine Below.setCell ?_ (by first | omega | (simp; done) | (simp; omega) | (dsimp only; omega)) _) | (refine Below.alloc ?_ (by first | omega | (simp; done) | (simp; omega) | (dsimp only; omega)) _)))) hb1)
    have HBF := Lib.hid (HB1.out.alloc HB1.out.size (.cells #[] 3))
    go_ret2
    exact ⟨_, _, rfl, ic_nil _ _, HBF.out⟩
  · simp only [pFirstStuck, b1, if_true, Prod.mk.injEq] at hp
    obtain ⟨hR, hb⟩ := hp
    obtain ⟨E, hE⟩ : ∃ E, E = srZ m := ⟨_, rfl⟩
    rw [← hE] at hR hb
    have HR := Lib.hid hR
    have HB := Lib.hid hb
    have HE := Lib.hid hE
    have HG := Lib.hid b1
    clear hR hb hE
    go_enter Try.func42, Try.ntmps42
    go_wp2_with (go_at_call 53; refine (l7Good_c _ m _ (hm.later (by (repeat (first | exact Below.refl _ _ | apply Below.drew | apply below_drewN | (refine Below.setCell ?_ (by first | omega | (simp; done) | (simp; omega) | (dsimp only; omega)) _) | (refine Below.alloc ?_ (by first | omega | (simp; done) | (simp; omega) | (dsimp only; omega)) _)))))).mono ?_; rintro e w1 ⟨rfl, hb1⟩; obtain ⟨hc1, hf1, hz1⟩ := bcell3 hb1; have HB1 : Hid (Below w.heap.size w w1) := below_then (by (repeat (first | exact Below.refl _ _ | apply Below.drew | apply below_drewN | (refine Below.setCell ?_ (by first | omega | (simp; done) | (simp; omega) | (dsimp only; omega)) _) | (refine Below.alloc ?_ (by first | omega | (simp; done) | (simp; omega) | (dsimp only; omega)) _)))) hb1; simp only [b1])
    refine (l7Stuck_c _ m E _ HE.out HG.out (hm.later HB1.out)).mono ?_
    rintro e w2 ⟨aw, cw, rfl, hi2, hb2⟩
    rw [HR.out, HB.out] at *
    have HI2 := Lib.hid hi2
    clear hi2
    go_wp2
    go_ret2
    exact ⟨_, _, rfl, HI2.out, below_then HB1.out hb2⟩
theorem specIsSafe_c (v : Value) (m : Mz) (w : World) (hm : MzAt w v m) : Calls Try.prog 38 #[v] w fun e w' => e = .returned (.tuple #[.bool (pIsSafe m).1, .bool (pIsSafe m).2]) ∧ Below w.heap.size w w' := by
  have hM := hm
  obtain ⟨⟨ad, cd, ak, ck, rfl, hd, hk'⟩, nd, nk⟩ := hM
  cases b1 : goodB m
  · have H : Hid (pIsSafe m = (false, false)) := by show _ = _; simp [pIsSafe, b1]
    go_enter Try.func38, Try.ntmps38
    go_wp2_with (go_at_call 53; refine (l7Good_c _ m _ (hm.later (by (repeat (first | exact Below.refl _ _ | apply Below.drew | apply below_drewN | (refine Below.setCell ?_ (by first | omega | (simp; done) | (simp; omega) | (dsimp only; omega)) _) | (refine Below.alloc ?_ (by first | omega | (simp; done) | (simp; omega) | (dsimp only; omega)) _)))))).mono ?_; rintro e w1 ⟨rfl, hb1⟩; have HB1 : Hid (Below w.heap.size w w1) := below_then (by (repeat (first | exact Below.refl _ _ | apply Below.drew | apply below_drewN | (refine Below.setCell ?_ (by first | omega | (simp; done) | (simp; omega) | (dsimp only; omega)) _) | (refine Below.alloc ?_ (by first | omega | (simp; done) | (simp; omega) | (dsimp only; omega)) _)))) hb1; simp only [b1])
    go_ret2
    exact ⟨by rw [H.out]; rfl, HB1.out⟩
  · obtain ⟨E, hE⟩ : ∃ E, E = srZ m := ⟨_, rfl⟩
    obtain ⟨b, hb⟩ : ∃ b, b = (fstE E (stuckP m)).isSome := ⟨_, rfl⟩
    have H : Hid (pIsSafe m = (!b, true)) := by show _ = _; rw [hb, hE]; simp [pIsSafe, b1]
    have HE := Lib.hid hE
    have HB := Lib.hid hb
    have HG := Lib.hid b1
    clear hb hE
    go_enter Try.func38, Try.ntmps38
    go_wp2_with (go_at_call 53; refine (l7Good_c _ m _ (hm.later (by (repeat (first | exact Below.refl _ _ | apply Below.drew | apply below_drewN | (refine Below.setCell ?_ (by first | omega | (simp; done) | (simp; omega) | (dsimp only; omega)) _) | (refine Below.alloc ?_ (by first | omega | (simp; done) | (simp; omega) | (dsimp only; omega)) _)))))).mono ?_; rintro e w1 ⟨rfl, hb1⟩; obtain ⟨hc1, hf1, hz1⟩ := bcell3 hb1; have HB1 : Hid (Below w.heap.size w w1) := below_then (by (repeat (first | exact Below.refl _ _ | apply Below.drew | apply below_drewN | (refine Below.setCell ?_ (by first | omega | (simp; done) | (simp; omega) | (dsimp only; omega)) _) | (refine Below.alloc ?_ (by first | omega | (simp; done) | (simp; omega) | (dsimp only; omega)) _)))) hb1; simp only [b1])
    refine (l7Stuck_c _ m E _ HE.out HG.out (hm.later HB1.out)).mono ?_
    rintro e w2 ⟨aw, cw, rfl, -, hb2⟩
    rw [← HB.out]
    go_wp2
    go_ret2
    exact ⟨by rw [H.out]; rfl, below_then HB1.out hb2⟩
end Go.Proofs.Ytlojcgjkjinlcaa
