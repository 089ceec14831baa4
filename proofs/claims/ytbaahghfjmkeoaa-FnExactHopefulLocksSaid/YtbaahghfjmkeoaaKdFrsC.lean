/- The reference's functions that ask the search. The reference's functions on openings that are stuck. The reference's FirstStuck and IsSafe. -/
import Derived.Test.YtbaahghfjmkeoaaKdFrsB
set_option linter.unusedVariables false
set_option linter.unusedSimpArgs false
namespace Go.KD
open Go.RowKit
theorem srZ_def (m : Mz) : srF m [(([], 0) : En)] = srZ m := rfl
theorem ic_nil (w : World) (a : Option Addr) : IC w a [] := fun k hk => by simp at hk
end Go.KD
namespace Go.Proofs.Ytbaahghfjmkeoaa
open Go.RowKit Go.KD
attribute [local go_sem] later_cell later_frozen
theorem fieldSeenS (a b : Option Addr) (n c k d : Nat) (w : World) : Sem.run Try.prog (Instr.field 75 (.agg #[.slice a n c, .slice b k d]) 1) w = .ok (.slice b k d) w := by
  simp [Instr.field, asAgg, go_sem]
attribute [local go_sem] fieldSeenS
set_option maxRecDepth 100000 in
theorem specCountStates_c (v : Value) (m : Mz) (w : World) (hm : MzAt w v m) : Calls Try.prog 29 #[v] w fun e w' => e = .returned (.tuple #[.int .i64 (pCountStates m).1, .bool (pCountStates m).2]) ∧ Below w.heap.size w w' := by
  have hM := hm
  obtain ⟨⟨ad, cd, ak, ck, rfl, hd, hk'⟩, nd, nk⟩ := hM
  cases b1 : goodB m
  · have H : Hid (pCountStates m = (0, false)) := by show _ = _; simp [pCountStates, b1]
    go_enter Try.func29, Try.ntmps29
    go_wp2_with (go_at_call 80; refine (l7Good_c _ m _ (hm.later (by (repeat (first | exact Below.refl _ _ | apply Below.drew | apply below_drewN | (refine Below.setCell ?_ (by first | omega | (simp; done) | (simp; omega) | (dsimp only; omega)) _) | (refine Below.alloc ?_ (by first | omega | (simp; done) | (simp; omega) | (dsimp only; omega)) _)))))).mono ?_; rintro e w1 ⟨rfl, hb1⟩; have HB1 : Hid (Below w.heap.size w w1) := below_then (by (repeat (first | exact Below.refl _ _ | apply Below.drew | apply below_drewN | (refine Below.setCell ?_ (by first | omega | (simp; done) | (simp; omega) | (dsimp only; omega)) _) | (refine Below.alloc ?_ (by first | omega | (simp; done) | (simp; omega) | (dsimp only; omega)) _)))) hb1; simp only [b1])
    go_ret2
    exact ⟨by rw [H.out]; rfl, HB1.out⟩
  · obtain ⟨E, hE⟩ : ∃ E, E = srZ m := ⟨_, rfl⟩
    have H : Hid (pCountStates m = (((E.length : Nat) : Int), true)) := by show _ = _; rw [hE]; simp [pCountStates, b1]
    have HE := Lib.hid hE
    clear hE
    have HG := Lib.hid b1
    go_enter Try.func29, Try.ntmps29
    go_wp2_with (go_at_call 80; refine (l7Good_c _ m _ (hm.later (by (repeat (first | exact Below.refl _ _ | apply Below.drew | apply below_drewN | (refine Below.setCell ?_ (by first | omega | (simp; done) | (simp; omega) | (dsimp only; omega)) _) | (refine Below.alloc ?_ (by first | omega | (simp; done) | (simp; omega) | (dsimp only; omega)) _)))))).mono ?_; rintro e w1 ⟨rfl, hb1⟩; obtain ⟨hc1, hf1, hz1⟩ := bcell3 hb1; have HB1 : Hid (Below w.heap.size w w1) := below_then (by (repeat (first | exact Below.refl _ _ | apply Below.drew | apply below_drewN | (refine Below.setCell ?_ (by first | omega | (simp; done) | (simp; omega) | (dsimp only; omega)) _) | (refine Below.alloc ?_ (by first | omega | (simp; done) | (simp; omega) | (dsimp only; omega)) _)))) hb1; simp only [b1])
    refine (l7Search_c _ m _ _ _ [] 0 _ rfl (hm.later (HB1.out.alloc HB1.out.size _)) HG.out (ic_nil _ _) (opn_nil m)).mono ?_
    rintro e w2 ⟨g, c, gc, cc, vs, rfl, -, -, hb2⟩
    rw [srZ_def, ← HE.out]
    go_wp2
    go_ret2
    exact ⟨by rw [H.out]; rfl, below_then (HB1.out.alloc HB1.out.size _) hb2⟩
set_option maxRecDepth 100000 in
theorem specAllOpened_c (v : Value) (m : Mz) (w : World) (hm : MzAt w v m) : Calls Try.prog 31 #[v] w fun e w' => e = .returned (.tuple #[.bool (pAllOpened m).1, .bool (pAllOpened m).2]) ∧ Below w.heap.size w w' := by
  have hM := hm
  obtain ⟨⟨ad, cd, ak, ck, rfl, hd, hk'⟩, nd, nk⟩ := hM
  cases b1 : goodB m
  · have H : Hid (pAllOpened m = (false, false)) := by show _ = _; simp [pAllOpened, b1]
    go_enter Try.func31, Try.ntmps31
    go_wp2_with (go_at_call 80; refine (l7Good_c _ m _ (hm.later (by (repeat (first | exact Below.refl _ _ | apply Below.drew | apply below_drewN | (refine Below.setCell ?_ (by first | omega | (simp; done) | (simp; omega) | (dsimp only; omega)) _) | (refine Below.alloc ?_ (by first | omega | (simp; done) | (simp; omega) | (dsimp only; omega)) _)))))).mono ?_; rintro e w1 ⟨rfl, hb1⟩; have HB1 : Hid (Below w.heap.size w w1) := below_then (by (repeat (first | exact Below.refl _ _ | apply Below.drew | apply below_drewN | (refine Below.setCell ?_ (by first | omega | (simp; done) | (simp; omega) | (dsimp only; omega)) _) | (refine Below.alloc ?_ (by first | omega | (simp; done) | (simp; omega) | (dsimp only; omega)) _)))) hb1; simp only [b1])
    go_ret2
    exact ⟨by rw [H.out]; rfl, HB1.out⟩
  · obtain ⟨E, hE⟩ : ∃ E, E = srZ m := ⟨_, rfl⟩
    have H : Hid (pAllOpened m = (hasI (codesE m E) (((2 ^ (locksI m).length - 1 : Nat)) : Int), true)) := by show _ = _; rw [hE, all_has b1]; simp [pAllOpened, b1]
    have HG := Lib.hid b1
    have HLE : Hid (E.length ≤ 1024) := by rw [hE]; exact srZ_le b1
    have HE := Lib.hid hE
    clear hE
    obtain ⟨n, hn⟩ : ∃ n, n = (locksI m).length := ⟨_, rfl⟩
    have hn10 : n ≤ 10 := by rw [hn]; simp only [goodB, Bool.and_eq_true, decide_eq_true_eq] at b1; exact b1.2
    obtain ⟨p, HP, ep, hp⟩ := shl_at30 n (by omega)
    have hn64 : (n : Int) < 64 := by omega
    have hp1 : 1 ≤ p := by rw [HP.out]; exact Nat.one_le_two_pow
    have hsub : IntKind.i64.wrap ((p : Int) - 1) = ((p - 1 : Nat) : Int) := by rw [IntKind.wrap_i64]; omega
    have HN := Lib.hid hn
    rw [← hn, ← HP.out] at H
    clear hn
    go_enter Try.func31, Try.ntmps31
    go_wp2_with (go_at_call 80; refine (l7Good_c _ m _ (hm.later (by (repeat (first | exact Below.refl _ _ | apply Below.drew | apply below_drewN | (refine Below.setCell ?_ (by first | omega | (simp; done) | (simp; omega) | (dsimp only; omega)) _) | (refine Below.alloc ?_ (by first | omega | (simp; done) | (simp; omega) | (dsimp only; omega)) _)))))).mono ?_; rintro e w1 ⟨rfl, hb1⟩; obtain ⟨hc1, hf1, hz1⟩ := bcell3 hb1; have HB1 : Hid (Below w.heap.size w w1) := below_then (by (repeat (first | exact Below.refl _ _ | apply Below.drew | apply below_drewN | (refine Below.setCell ?_ (by first | omega | (simp; done) | (simp; omega) | (dsimp only; omega)) _) | (refine Below.alloc ?_ (by first | omega | (simp; done) | (simp; omega) | (dsimp only; omega)) _)))) hb1; have HC1 : Hid (w1.cell? ⟨w.heap.size, 0, none⟩ = some (.int .i64 m.size) ∧ w1.cell? ⟨w.heap.size, 1, none⟩ = some (.slice ad m.doors.length cd) ∧ w1.cell? ⟨w.heap.size, 2, none⟩ = some (.slice ak m.keys.length ck) ∧ w.heap.size < w1.heap.size) := (by refine ⟨?_, ?_, ?_, ?_⟩ <;> first | (simp [*, go_sem]; done) | (simp at hz1; omega)); simp only [b1])
    refine (l7Search_c _ m _ _ _ [] 0 _ rfl (hm.later (HB1.out.alloc HB1.out.size _)) HG.out (ic_nil _ _) (opn_nil m)).mono ?_
    rintro e w2 ⟨g, c, gc, cc, vs, rfl, -, hi2, hb2⟩
    rw [srZ_def, ← HE.out] at hi2 ⊢
    have HB2 : Hid (Below w1.heap.size w1 w2) := Below.trans ((Below.refl _ _).alloc (Nat.le_refl _) _) (hb2.mono (by simp))
    obtain ⟨q0, q1, q2, hz⟩ := HC1.out
    have r0 := (HB2.out.cell (p := ⟨w.heap.size, 0, none⟩) hz).trans q0
    have r1 := (HB2.out.cell (p := ⟨w.heap.size, 1, none⟩) hz).trans q1
    have r2 := (HB2.out.cell (p := ⟨w.heap.size, 2, none⟩) hz).trans q2
    have HI2 := Lib.hid hi2
    clear hi2 hb2 hc1 hf1 hb1 q0 q1 q2
    go_wp2_with (go_at_call 89; refine (l7Locks_c _ m _ (hm.later (below_then HB1.out HB2.out))).mono ?_; rintro e w3 ⟨u3, rfl, ho3, hb3⟩; obtain ⟨a3, c3, rfl⟩ := own_slice ho3; have HB3 := Lib.hid hb3; clear ho3 hb3; rw [← HN.out])
    refine (l1Has_c _ _ _ (codesE m E) _ _ (by rw [codesE_len]) (HI2.out.later HB3.out) (by have := HLE.out; omega)).mono ?_
    rintro e w4 ⟨rfl, rfl⟩
    go_wp2
    go_ret2
    exact ⟨by rw [H.out]; rfl, below_then (below_then HB1.out HB2.out) HB3.out⟩
set_option maxHeartbeats 4000000 in
theorem specFirstWin_c (v : Value) (m : Mz) (w : World) (R : List Int) (b : Bool) (hp : pFirstWin m = (R, b)) (hm : MzAt w v m) : Calls Try.prog 23 #[v] w fun e w' => ∃ aw cw, e = .returned (.tuple #[.slice aw R.length cw, .bool b]) ∧ IC w' aw R ∧ Below w.heap.size w w' := by
  have hM := hm
  obtain ⟨⟨ad, cd, ak, ck, rfl, hd, hk'⟩, nd, nk⟩ := hM
  cases b1 : goodB m
  · simp only [pFirstWin, b1] at hp
    cases hp
    go_enter Try.func23, Try.ntmps23
    go_wp2_with (go_at_call 80; refine (l7Good_c _ m _ (hm.later (by (repeat (first | exact Below.refl _ _ | apply Below.drew | apply below_drewN | (refine Below.setCell ?_ (by first | omega | (simp; done) | (simp; omega) | (dsimp only; omega)) _) | (refine Below.alloc ?_ (by first | omega | (simp; done) | (simp; omega) | (dsimp only; omega)) _)))))).mono ?_; rintro e w1 ⟨rfl, hb1⟩; have HB1 : Hid (Below w.heap.size w w1) := below_then (by (repeat (first | exact Below.refl _ _ | apply Below.drew | apply below_drewN | (refine Below.setCell ?_ (by first | omega | (simp; done) | (simp; omega) | (dsimp only; omega)) _) | (refine Below.alloc ?_ (by first | omega | (simp; done) | (simp; omega) | (dsimp only; omega)) _)))) hb1)
    have HBF := Lib.hid (HB1.out.alloc HB1.out.size (.cells #[] 3))
    go_ret2
    exact ⟨_, _, rfl, ic_nil _ _, HBF.out⟩
  · simp only [pFirstWin, b1, if_true, Prod.mk.injEq] at hp
    obtain ⟨hR, hb⟩ := hp
    obtain ⟨E, hE⟩ : ∃ E, E = srZ m := ⟨_, rfl⟩
    rw [← hE] at hR hb
    have HR := Lib.hid hR
    have HB := Lib.hid hb
    have HE := Lib.hid hE
    have HEO : Hid (SrOk m E) := by rw [hE]; exact srZ_ok m
    have hle : E.length ≤ 1024 := by rw [hE]; exact srZ_le b1
    have HG := Lib.hid b1
    clear hR hb hE
    go_enter Try.func23, Try.ntmps23
    go_wp2_with (go_at_call 80; refine (l7Good_c _ m _ (hm.later (by (repeat (first | exact Below.refl _ _ | apply Below.drew | apply below_drewN | (refine Below.setCell ?_ (by first | omega | (simp; done) | (simp; omega) | (dsimp only; omega)) _) | (refine Below.alloc ?_ (by first | omega | (simp; done) | (simp; omega) | (dsimp only; omega)) _)))))).mono ?_; rintro e w1 ⟨rfl, hb1⟩; obtain ⟨hc1, hf1, hz1⟩ := bcell3 hb1; have HB1 : Hid (Below w.heap.size w w1) := below_then (by (repeat (first | exact Below.refl _ _ | apply Below.drew | apply below_drewN | (refine Below.setCell ?_ (by first | omega | (simp; done) | (simp; omega) | (dsimp only; omega)) _) | (refine Below.alloc ?_ (by first | omega | (simp; done) | (simp; omega) | (dsimp only; omega)) _)))) hb1; have HC1 : Hid (w1.cell? ⟨w.heap.size, 0, none⟩ = some (.int .i64 m.size) ∧ w1.cell? ⟨w.heap.size, 1, none⟩ = some (.slice ad m.doors.length cd) ∧ w1.cell? ⟨w.heap.size, 2, none⟩ = some (.slice ak m.keys.length ck) ∧ w.heap.size < w1.heap.size) := (by refine ⟨?_, ?_, ?_, ?_⟩ <;> first | (simp [*, go_sem]; done) | (simp at hz1; omega)); simp only [b1])
    refine (l7Search_c _ m _ _ _ [] 0 _ rfl (hm.later (HB1.out.alloc HB1.out.size _)) HG.out (ic_nil _ _) (opn_nil m)).mono ?_
    rintro e w2 ⟨g, c, gc, cc, vs, rfl, ⟨lo, xx, yy, hr2⟩, -, hb2⟩
    rw [srZ_def, ← HE.out] at hr2 ⊢
    have HR2 := Lib.hid hr2
    have HB2 : Hid (Below w1.heap.size w1 w2) := Below.trans ((Below.refl _ _).alloc (Nat.le_refl _) _) (hb2.mono (by simp))
    have hz2 := HB2.out.size
    obtain ⟨q0, q1, q2, hz⟩ := HC1.out
    have r0 := (HB2.out.cell (p := ⟨w.heap.size, 0, none⟩) hz).trans q0
    have r1 := (HB2.out.cell (p := ⟨w.heap.size, 1, none⟩) hz).trans q1
    have r2 := (HB2.out.cell (p := ⟨w.heap.size, 2, none⟩) hz).trans q2
    clear hr2 hb2 hc1 hf1 hb1 q0 q1 q2
    have HBS : Hid (Below (w2.heap.size + 1) (w2.alloc (.cells #[.slice (some ⟨g, 0, none⟩) E.length c, .slice (some ⟨gc, 0, none⟩) E.length cc] 75)) (w2.alloc (.cells #[.slice (some ⟨g, 0, none⟩) E.length c, .slice (some ⟨gc, 0, none⟩) E.length cc] 75))) := Below.refl _ _
    have HS : Hid (∀ W, Below (w2.heap.size + 1) (w2.alloc (.cells #[.slice (some ⟨g, 0, none⟩) E.length c, .slice (some ⟨gc, 0, none⟩) E.length cc] 75)) W → w2.heap.size < W.heap.size ∧ Below w.heap.size w W ∧ (W.cell? ⟨w.heap.size, 0, none⟩ = some (.int .i64 m.size) ∧ W.cell? ⟨w.heap.size, 1, none⟩ = some (.slice ad m.doors.length cd) ∧ W.cell? ⟨w.heap.size, 2, none⟩ = some (.slice ak m.keys.length ck) ∧ W.cell? ⟨w2.heap.size, 0, none⟩ = some (.slice (some ⟨g, 0, none⟩) E.length c)) ∧ RwS false W lo 23 3 g c xx yy vs (lisE E)) := by
      intro W hW
      have hb : Below w2.heap.size w2 W := ((Below.refl _ _).alloc (Nat.le_refl _) _).trans (hW.mono (by omega))
      refine ⟨by have := hW.size; simp at this; omega, below_then (below_then HB1.out HB2.out) hb, ⟨(hb.cell (p := ⟨w.heap.size, 0, none⟩) (by show w.heap.size < _; omega)).trans r0, (hb.cell (p := ⟨w.heap.size, 1, none⟩) (by show w.heap.size < _; omega)).trans r1, (hb.cell (p := ⟨w.heap.size, 2, none⟩) (by show w.heap.size < _; omega)).trans r2, (hW.cell (p := ⟨w2.heap.size, 0, none⟩) (by show w2.heap.size < _; omega)).trans (by simp [go_sem])⟩, HR2.out.later hb⟩
    clear r0 r1 r2 HR2
    go_wp2_with fail
    go_loopw [5] (fun i wr => ∃ k : Nat, i = .int .i64 k ∧ k ≤ E.length ∧ Hid (Below (w2.heap.size + 1) (w2.alloc (.cells #[.slice (some ⟨g, 0, none⟩) E.length c, .slice (some ⟨gc, 0, none⟩) E.length cc] 75)) wr) ∧ Hid (∀ j, j < k → wonB m (E[j]!).2 = false)) (fun i _ => E.length - (intOf i).toNat)
    case atStart => exact ⟨0, rfl, Nat.zero_le _, HBS, fun j hj => by omega⟩
    case round =>
      clear HBS
      obtain ⟨wo, rfl⟩ : ∃ wo : World, wo = wr := ⟨_, rfl⟩
      obtain ⟨k, rfl, hk, HBO, HP⟩ := hrel
      obtain ⟨hzo, hbo, ⟨q0, q1, q2, q3⟩, hrow⟩ := HS.out wo HBO.out
      have HBW := Lib.hid hbo
      clear hbo
      by_cases hlt : k < E.length
      · have hkI : (k : Int) < (E.length : Int) := by omega
        obtain ⟨Lk, hLk⟩ : ∃ Lk, Lk = (E[k]!).1 := ⟨_, rfl⟩
        obtain ⟨Ok, hOk⟩ : ∃ Ok, Ok = (E[k]!).2 := ⟨_, rfl⟩
        have HOPk : Hid (Opn m Lk Ok) := by
          show Opn m Lk Ok
          rw [hLk, hOk]
          exact HEO.out.all E[k]! (by rw [getElem!_pos E k hlt]; exact List.getElem_mem hlt)
        have HLK := Lib.hid hLk
        have HOK2 := Lib.hid hOk
        have hLk30 := opn_len (good_ok HG.out) HOPk.out
        have he := hrow.each k (by simpa using hlt)
        rw [lisE_at hlt, ← hLk] at he
        obtain ⟨aK, cK, hvk, hik⟩ := he.ic
        have ek := hrow.cell (i := k) (by simpa using hlt)
        rw [hvk] at ek
        have hgz := hrow.gs
        have HIK := Lib.hid hik
        have hzl : w.heap.size < wo.heap.size := by omega
        have HS2 : Hid (∀ W, Below wo.heap.size wo W → W.cell? ⟨w.heap.size, 0, none⟩ = some (.int .i64 m.size) ∧ W.cell? ⟨w.heap.size, 1, none⟩ = some (.slice ad m.doors.length cd) ∧ W.cell? ⟨w.heap.size, 2, none⟩ = some (.slice ak m.keys.length ck) ∧ W.cell? ⟨w2.heap.size, 0, none⟩ = some (.slice (some ⟨g, 0, none⟩) E.length c) ∧ W.cell? ⟨g, k, none⟩ = some (.slice aK Lk.length cK)) := fun W hW => ⟨(hW.cell (p := ⟨w.heap.size, 0, none⟩) hzl).trans q0, (hW.cell (p := ⟨w.heap.size, 1, none⟩) hzl).trans q1, (hW.cell (p := ⟨w.heap.size, 2, none⟩) hzl).trans q2, (hW.cell (p := ⟨w2.heap.size, 0, none⟩) hzo).trans q3, (hW.cell (p := ⟨g, k, none⟩) hgz).trans ek⟩
        clear hLk hOk he hvk hik hrow
        go_upto_region 7 with fail
        go_cut [26] (fun s wx => s = .bool (wonB m Ok) ∧ Hid (Below wo.heap.size wo wx))
        case first =>
          go_region_held3 (fun W => W.cell? ⟨w.heap.size, 0, none⟩ = some (.int .i64 m.size) ∧ W.cell? ⟨w.heap.size, 1, none⟩ = some (.slice ad m.doors.length cd) ∧ W.cell? ⟨w.heap.size, 2, none⟩ = some (.slice ak m.keys.length ck) ∧ W.cell? ⟨w2.heap.size, 0, none⟩ = some (.slice (some ⟨g, 0, none⟩) E.length c) ∧ W.cell? ⟨g, k, none⟩ = some (.slice aK Lk.length cK))
            (exact HS2.out _ (by repeat (first | exact Below.refl _ _ | exact HB8.out | apply Below.drew | apply below_drewN | (refine Below.setCell ?_ (by first | omega | (simp; done) | (simp; omega) | (dsimp only; omega)) _) | (refine Below.alloc ?_ (by first | omega | (simp; done) | (simp; omega) | (dsimp only; omega)) _))))
            ((go_at_call 55; refine (l7Wins_c _ m Ok _ _ _ Lk _ rfl ((hm.later HBW.out).later (by repeat (first | exact Below.refl _ _ | apply Below.drew | apply below_drewN | (refine Below.setCell ?_ (by first | omega | (simp; done) | (simp; omega) | (dsimp only; omega)) _) | (refine Below.alloc ?_ (by first | omega | (simp; done) | (simp; omega) | (dsimp only; omega)) _)))) (good_ok HG.out) (HIK.out.later (by repeat (first | exact Below.refl _ _ | apply Below.drew | apply below_drewN | (refine Below.setCell ?_ (by first | omega | (simp; done) | (simp; omega) | (dsimp only; omega)) _) | (refine Below.alloc ?_ (by first | omega | (simp; done) | (simp; omega) | (dsimp only; omega)) _)))) (by omega) (opn_ok (good_ok HG.out) HOPk.out)).mono ?_; rintro e w8 ⟨rfl, hb8⟩; have HB8 : Hid (Below wo.heap.size wo w8) := (Below.refl _ _).drew.trans hb8; clear hb8))
          all_goals
            go_wp2_with fail
            go_meet
            case rel => exact ⟨rfl, HB8⟩
        case rest =>
          obtain ⟨rfl, HBC⟩ := hcut
          obtain ⟨t0, t1, t2, t3, t4⟩ := HS2.out _ HBC.out
          clear q0 q1 q2 q3 ek HS2
          cases hw : wonB m Ok
          case false =>
            have HPK : Hid (∀ j, j < k + 1 → wonB m (E[j]!).2 = false) := by
              intro j hj
              rcases Nat.lt_or_ge j k with h | h
              · exact HP.out j h
              · obtain rfl : j = k := by omega
                rw [← HOK2.out]; exact hw
            clear hw
            go_wp2
            go_roundw
            case rel => exact ⟨k + 1, by go_num, by omega, HBO.out.trans (HBC.out.mono (by omega)), HPK⟩
            case measure => simp [intOf]; omega
          case true =>
            have HF : Hid (fstE E (wonB m) = some Lk) := by
              show _ = _
              rw [fstE_at hlt HP.out (by rw [← HOK2.out]; exact hw), ← HLK.out]
            clear hw
            have HIF := Lib.hid (HIK.out.later HBC.out)
            go_wp2
            go_ret2
            rw [HF.out] at HR HB
            exact ⟨_, _, by rw [← HR.out, ← HB.out]; rfl, by rw [← HR.out]; exact HIF.out, below_then HBW.out HBC.out⟩
      · obtain rfl : k = E.length := by omega
        have HF : Hid (fstE E (wonB m) = none) := fstE_none HP.out
        have HBF := Lib.hid (HBW.out.alloc HBW.out.size (.cells #[] 3))
        go_wp2
        go_ret2
        rw [HF.out] at HR HB
        exact ⟨_, _, by rw [← HR.out, ← HB.out]; rfl, by rw [← HR.out]; exact ic_nil _ _, HBF.out⟩
end Go.Proofs.Ytbaahghfjmkeoaa
