/- The reference's functions that ask the search. The reference's functions on openings that are stuck. The reference's FirstStuck and IsSafe. HopefulLocks: the reference's. The reference's functions on openings that are stuck. What the search of openings tells: plain words. -/
import Derived.Test.YtcjcgcgcloanpaaKps10
import Derived.Test.YtcjcgcgcloanpaaKps8
import Derived.Deep.AppendLies
set_option linter.unusedVariables false
set_option linter.unusedSimpArgs false
namespace Go.KD
open Go.RowKit
theorem srZ_def (m : Mz) : srF m [(([], 0) : En)] = srZ m := rfl
theorem ic_nil (w : World) (a : Option Addr) : IC w a [] := fun k hk => by simp at hk
end Go.KD
namespace Go.Proofs.Ytcjcgcgcloanpaa
open Go.RowKit Go.KD
attribute [local go_sem] later_cell later_frozen
theorem fieldSeenS (a b : Option Addr) (n c k d : Nat) (w : World) : Sem.run Try.prog (Instr.field 73 (.agg #[.slice a n c, .slice b k d]) 1) w = .ok (.slice b k d) w := by
  simp [Instr.field, asAgg, go_sem]
attribute [local go_sem] fieldSeenS
set_option maxRecDepth 100000 in
theorem specCountStates_c (v : Value) (m : Mz) (w : World) (hm : MzAt w v m) : Calls Try.prog 37 #[v] w fun e w' => e = .returned (.tuple #[.int .i64 (pCountStates m).1, .bool (pCountStates m).2]) ∧ Below w.heap.size w w' := by
  have hM := hm
  obtain ⟨⟨ad, cd, ak, ck, rfl, hd, hk'⟩, nd, nk⟩ := hM
  cases b1 : goodB m
  · have H : Hid (pCountStates m = (0, false)) := by show _ = _; simp [pCountStates, b1]
    go_enter Try.func37, Try.ntmps37
    go_wp2_with (go_at_call 74; refine (l7Good_c _ m _ (hm.later (by (repeat (first | exact Below.refl _ _ | apply Below.drew | apply below_drewN | (refine Below.setCell ?_ (by first | omega | (simp; done) | (simp; omega) | (dsimp only; omega)) _) | (refine Below.alloc ?_ (by first | omega | (simp; done) | (simp; omega) | (dsimp only; omega)) _)))))).mono ?_; rintro e w1 ⟨rfl, hb1⟩; have HB1 : Hid (Below w.heap.size w w1) := below_then (by (repeat (first | exact Below.refl _ _ | apply Below.drew | apply below_drewN | (refine Below.setCell ?_ (by first | omega | (simp; done) | (simp; omega) | (dsimp only; omega)) _) | (refine Below.alloc ?_ (by first | omega | (simp; done) | (simp; omega) | (dsimp only; omega)) _)))) hb1; simp only [b1])
    go_ret2
    exact ⟨by rw [H.out]; rfl, HB1.out⟩
  · obtain ⟨E, hE⟩ : ∃ E, E = srZ m := ⟨_, rfl⟩
    have H : Hid (pCountStates m = (((E.length : Nat) : Int), true)) := by show _ = _; rw [hE]; simp [pCountStates, b1]
    have HE := Lib.hid hE
    clear hE
    have HG := Lib.hid b1
    go_enter Try.func37, Try.ntmps37
    go_wp2_with (go_at_call 74; refine (l7Good_c _ m _ (hm.later (by (repeat (first | exact Below.refl _ _ | apply Below.drew | apply below_drewN | (refine Below.setCell ?_ (by first | omega | (simp; done) | (simp; omega) | (dsimp only; omega)) _) | (refine Below.alloc ?_ (by first | omega | (simp; done) | (simp; omega) | (dsimp only; omega)) _)))))).mono ?_; rintro e w1 ⟨rfl, hb1⟩; obtain ⟨hc1, hf1, hz1⟩ := bcell3 hb1; have HB1 : Hid (Below w.heap.size w w1) := below_then (by (repeat (first | exact Below.refl _ _ | apply Below.drew | apply below_drewN | (refine Below.setCell ?_ (by first | omega | (simp; done) | (simp; omega) | (dsimp only; omega)) _) | (refine Below.alloc ?_ (by first | omega | (simp; done) | (simp; omega) | (dsimp only; omega)) _)))) hb1; simp only [b1])
    refine (l7Search_c _ m _ _ _ [] 0 _ rfl (hm.later (HB1.out.alloc HB1.out.size _)) HG.out (ic_nil _ _) (opn_nil m)).mono ?_
    rintro e w2 ⟨g, c, gc, cc, vs, rfl, -, -, hb2⟩
    rw [srZ_def, ← HE.out]
    go_wp2
    go_ret2
    exact ⟨by rw [H.out]; rfl, below_then (HB1.out.alloc HB1.out.size _) hb2⟩
set_option maxRecDepth 100000 in
theorem specAllOpened_c (v : Value) (m : Mz) (w : World) (hm : MzAt w v m) : Calls Try.prog 39 #[v] w fun e w' => e = .returned (.tuple #[.bool (pAllOpened m).1, .bool (pAllOpened m).2]) ∧ Below w.heap.size w w' := by
  have hM := hm
  obtain ⟨⟨ad, cd, ak, ck, rfl, hd, hk'⟩, nd, nk⟩ := hM
  cases b1 : goodB m
  · have H : Hid (pAllOpened m = (false, false)) := by show _ = _; simp [pAllOpened, b1]
    go_enter Try.func39, Try.ntmps39
    go_wp2_with (go_at_call 74; refine (l7Good_c _ m _ (hm.later (by (repeat (first | exact Below.refl _ _ | apply Below.drew | apply below_drewN | (refine Below.setCell ?_ (by first | omega | (simp; done) | (simp; omega) | (dsimp only; omega)) _) | (refine Below.alloc ?_ (by first | omega | (simp; done) | (simp; omega) | (dsimp only; omega)) _)))))).mono ?_; rintro e w1 ⟨rfl, hb1⟩; have HB1 : Hid (Below w.heap.size w w1) := below_then (by (repeat (first | exact Below.refl _ _ | apply Below.drew | apply below_drewN | (refine Below.setCell ?_ (by first | omega | (simp; done) | (simp; omega) | (dsimp only; omega)) _) | (refine Below.alloc ?_ (by first | omega | (simp; done) | (simp; omega) | (dsimp only; omega)) _)))) hb1; simp only [b1])
    go_ret2
    exact ⟨by rw [H.out]; rfl, HB1.out⟩
  · obtain ⟨E, hE⟩ : ∃ E, E = srZ m := ⟨_, rfl⟩
    have H : Hid (pAllOpened m = (hasI (codesE m E) (((2 ^ (locksI m).length - 1 : Nat)) : Int), true)) := by show _ = _; rw [hE, all_has b1]; simp [pAllOpened, b1]
    have HG := Lib.hid b1
    have HLE : Hid (E.length ≤ 1024) := by rw [hE]; exact srZ_le b1
    have HE := Lib.hid hE
    clear hE
    obtain ⟨n, hn⟩ : ∃ n, n = (locksI m).length := ⟨_, rfl⟩
    have hn10 : n ≤ 10 := by rw [hn]; simp only [goodB, Bool.and_eq_true, decide_eq_true_eq] at b1; exact b1.2
    obtain ⟨p, HP, ep, hp⟩ := shl_at30 n (by omega)
    have hn64 : (n : Int) < 64 := by omega
    have hp1 : 1 ≤ p := by rw [HP.out]; exact Nat.one_le_two_pow
    have hsub : IntKind.i64.wrap ((p : Int) - 1) = ((p - 1 : Nat) : Int) := by rw [IntKind.wrap_i64]; omega
    have HN := Lib.hid hn
    rw [← hn, ← HP.out] at H
    clear hn
    go_enter Try.func39, Try.ntmps39
    go_wp2_with (go_at_call 74; refine (l7Good_c _ m _ (hm.later (by (repeat (first | exact Below.refl _ _ | apply Below.drew | apply below_drewN | (refine Below.setCell ?_ (by first | omega | (simp; done) | (simp; omega) | (dsimp only; omega)) _) | (refine Below.alloc ?_ (by first | omega | (simp; done) | (simp; omega) | (dsimp only; omega)) _)))))).mono ?_; rintro e w1 ⟨rfl, hb1⟩; obtain ⟨hc1, hf1, hz1⟩ := bcell3 hb1; have HB1 : Hid (Below w.heap.size w w1) := below_then (by (repeat (first | exact Below.refl _ _ | apply Below.drew | apply below_drewN | (refine Below.setCell ?_ (by first | omega | (simp; done) | (simp; omega) | (dsimp only; omega)) _) | (refine Below.alloc ?_ (by first | omega | (simp; done) | (simp; omega) | (dsimp only; omega)) _)))) hb1; have HC1 : Hid (w1.cell? ⟨w.heap.size, 0, none⟩ = some (.int .i64 m.size) ∧ w1.cell? ⟨w.heap.size, 1, none⟩ = some (.slice ad m.doors.length cd) ∧ w1.cell? ⟨w.heap.size, 2, none⟩ = some (.slice ak m.keys.length ck) ∧ w.heap.size < w1.heap.size) := (by refine ⟨?_, ?_, ?_, ?_⟩ <;> first | (simp [*, go_sem]; done) | (simp at hz1; omega)); simp only [b1])
    refine (l7Search_c _ m _ _ _ [] 0 _ rfl (hm.later (HB1.out.alloc HB1.out.size _)) HG.out (ic_nil _ _) (opn_nil m)).mono ?_
    rintro e w2 ⟨g, c, gc, cc, vs, rfl, -, hi2, hb2⟩
    rw [srZ_def, ← HE.out] at hi2 ⊢
    have HB2 : Hid (Below w1.heap.size w1 w2) := Below.trans ((Below.refl _ _).alloc (Nat.le_refl _) _) (hb2.mono (by simp))
    obtain ⟨q0, q1, q2, hz⟩ := HC1.out
    have r0 := (HB2.out.cell (p := ⟨w.heap.size, 0, none⟩) hz).trans q0
    have r1 := (HB2.out.cell (p := ⟨w.heap.size, 1, none⟩) hz).trans q1
    have r2 := (HB2.out.cell (p := ⟨w.heap.size, 2, none⟩) hz).trans q2
    have HI2 := Lib.hid hi2
    clear hi2 hb2 hc1 hf1 hb1 q0 q1 q2
    go_wp2_with (go_at_call 93; refine (l7Locks_c _ m _ (hm.later (below_then HB1.out HB2.out))).mono ?_; rintro e w3 ⟨u3, rfl, ho3, hb3⟩; obtain ⟨a3, c3, rfl⟩ := own_slice ho3; have HB3 := Lib.hid hb3; clear ho3 hb3; rw [← HN.out])
    refine (l1Has_c _ _ _ (codesE m E) _ _ (by rw [codesE_len]) (HI2.out.later HB3.out) (by have := HLE.out; omega)).mono ?_
    rintro e w4 ⟨rfl, rfl⟩
    go_wp2
    go_ret2
    exact ⟨by rw [H.out]; rfl, below_then (below_then HB1.out HB2.out) HB3.out⟩
set_option maxHeartbeats 4000000 in
theorem specFirstWin_c (v : Value) (m : Mz) (w : World) (R : List Int) (b : Bool) (hp : pFirstWin m = (R, b)) (hm : MzAt w v m) : Calls Try.prog 31 #[v] w fun e w' => ∃ aw cw, e = .returned (.tuple #[.slice aw R.length cw, .bool b]) ∧ IC w' aw R ∧ Below w.heap.size w w' := by
  have hM := hm
  obtain ⟨⟨ad, cd, ak, ck, rfl, hd, hk'⟩, nd, nk⟩ := hM
  cases b1 : goodB m
  · simp only [pFirstWin, b1] at hp
    cases hp
    go_enter Try.func31, Try.ntmps31
    go_wp2_with (go_at_call 74; refine (l7Good_c _ m _ (hm.later (by (repeat (first | exact Below.refl _ _ | apply Below.drew | apply below_drewN | (refine Below.setCell ?_ (by first | omega | (simp; done) | (simp; omega) | (dsimp only; omega)) _) | (refine Below.alloc ?_ (by first | omega | (simp; done) | (simp; omega) | (dsimp only; omega)) _)))))).mono ?_; rintro e w1 ⟨rfl, hb1⟩; have HB1 : Hid (Below w.heap.size w w1) := below_then (by (repeat (first | exact Below.refl _ _ | apply Below.drew | apply below_drewN | (refine Below.setCell ?_ (by first | omega | (simp; done) | (simp; omega) | (dsimp only; omega)) _) | (refine Below.alloc ?_ (by first | omega | (simp; done) | (simp; omega) | (dsimp only; omega)) _)))) hb1)
    have HBF := Lib.hid (HB1.out.alloc HB1.out.size (.cells #[] 3))
    go_ret2
    exact ⟨_, _, rfl, ic_nil _ _, HBF.out⟩
  · simp only [pFirstWin, b1, if_true, Prod.mk.injEq] at hp
    obtain ⟨hR, hb⟩ := hp
    obtain ⟨E, hE⟩ : ∃ E, E = srZ m := ⟨_, rfl⟩
    rw [← hE] at hR hb
    have HR := Lib.hid hR
    have HB := Lib.hid hb
    have HE := Lib.hid hE
    have HEO : Hid (SrOk m E) := by rw [hE]; exact srZ_ok m
    have hle : E.length ≤ 1024 := by rw [hE]; exact srZ_le b1
    have HG := Lib.hid b1
    clear hR hb hE
    go_enter Try.func31, Try.ntmps31
    go_wp2_with (go_at_call 74; refine (l7Good_c _ m _ (hm.later (by (repeat (first | exact Below.refl _ _ | apply Below.drew | apply below_drewN | (refine Below.setCell ?_ (by first | omega | (simp; done) | (simp; omega) | (dsimp only; omega)) _) | (refine Below.alloc ?_ (by first | omega | (simp; done) | (simp; omega) | (dsimp only; omega)) _)))))).mono ?_; rintro e w1 ⟨rfl, hb1⟩; obtain ⟨hc1, hf1, hz1⟩ := bcell3 hb1; have HB1 : Hid (Below w.heap.size w w1) := below_then (by (repeat (first | exact Below.refl _ _ | apply Below.drew | apply below_drewN | (refine Below.setCell ?_ (by first | omega | (simp; done) | (simp; omega) | (dsimp only; omega)) _) | (refine Below.alloc ?_ (by first | omega | (simp; done) | (simp; omega) | (dsimp only; omega)) _)))) hb1; have HC1 : Hid (w1.cell? ⟨w.heap.size, 0, none⟩ = some (.int .i64 m.size) ∧ w1.cell? ⟨w.heap.size, 1, none⟩ = some (.slice ad m.doors.length cd) ∧ w1.cell? ⟨w.heap.size, 2, none⟩ = some (.slice ak m.keys.length ck) ∧ w.heap.size < w1.heap.size) := (by refine ⟨?_, ?_, ?_, ?_⟩ <;> first | (simp [*, go_sem]; done) | (simp at hz1; omega)); simp only [b1])
    refine (l7Search_c _ m _ _ _ [] 0 _ rfl (hm.later (HB1.out.alloc HB1.out.size _)) HG.out (ic_nil _ _) (opn_nil m)).mono ?_
    rintro e w2 ⟨g, c, gc, cc, vs, rfl, ⟨lo, xx, yy, hr2⟩, -, hb2⟩
    rw [srZ_def, ← HE.out] at hr2 ⊢
    have HR2 := Lib.hid hr2
    have HB2 : Hid (Below w1.heap.size w1 w2) := Below.trans ((Below.refl _ _).alloc (Nat.le_refl _) _) (hb2.mono (by simp))
    have hz2 := HB2.out.size
    obtain ⟨q0, q1, q2, hz⟩ := HC1.out
    have r0 := (HB2.out.cell (p := ⟨w.heap.size, 0, none⟩) hz).trans q0
    have r1 := (HB2.out.cell (p := ⟨w.heap.size, 1, none⟩) hz).trans q1
    have r2 := (HB2.out.cell (p := ⟨w.heap.size, 2, none⟩) hz).trans q2
    clear hr2 hb2 hc1 hf1 hb1 q0 q1 q2
    have HBS : Hid (Below (w2.heap.size + 1) (w2.alloc (.cells #[.slice (some ⟨g, 0, none⟩) E.length c, .slice (some ⟨gc, 0, none⟩) E.length cc] 73)) (w2.alloc (.cells #[.slice (some ⟨g, 0, none⟩) E.length c, .slice (some ⟨gc, 0, none⟩) E.length cc] 73))) := Below.refl _ _
    have HS : Hid (∀ W, Below (w2.heap.size + 1) (w2.alloc (.cells #[.slice (some ⟨g, 0, none⟩) E.length c, .slice (some ⟨gc, 0, none⟩) E.length cc] 73)) W → w2.heap.size < W.heap.size ∧ Below w.heap.size w W ∧ (W.cell? ⟨w.heap.size, 0, none⟩ = some (.int .i64 m.size) ∧ W.cell? ⟨w.heap.size, 1, none⟩ = some (.slice ad m.doors.length cd) ∧ W.cell? ⟨w.heap.size, 2, none⟩ = some (.slice ak m.keys.length ck) ∧ W.cell? ⟨w2.heap.size, 0, none⟩ = some (.slice (some ⟨g, 0, none⟩) E.length c)) ∧ RwS false W lo 25 3 g c xx yy vs (lisE E)) := by
      intro W hW
      have hb : Below w2.heap.size w2 W := ((Below.refl _ _).alloc (Nat.le_refl _) _).trans (hW.mono (by omega))
      refine ⟨by have := hW.size; simp at this; omega, below_then (below_then HB1.out HB2.out) hb, ⟨(hb.cell (p := ⟨w.heap.size, 0, none⟩) (by show w.heap.size < _; omega)).trans r0, (hb.cell (p := ⟨w.heap.size, 1, none⟩) (by show w.heap.size < _; omega)).trans r1, (hb.cell (p := ⟨w.heap.size, 2, none⟩) (by show w.heap.size < _; omega)).trans r2, (hW.cell (p := ⟨w2.heap.size, 0, none⟩) (by show w2.heap.size < _; omega)).trans (by simp [go_sem])⟩, HR2.out.later hb⟩
    clear r0 r1 r2 HR2
    go_wp2_with fail
    go_loopw [5] (fun i wr => ∃ k : Nat, i = .int .i64 k ∧ k ≤ E.length ∧ Hid (Below (w2.heap.size + 1) (w2.alloc (.cells #[.slice (some ⟨g, 0, none⟩) E.length c, .slice (some ⟨gc, 0, none⟩) E.length cc] 73)) wr) ∧ Hid (∀ j, j < k → wonB m (E[j]!).2 = false)) (fun i _ => E.length - (intOf i).toNat)
    case atStart => exact ⟨0, rfl, Nat.zero_le _, HBS, fun j hj => by omega⟩
    case round =>
      clear HBS
      obtain ⟨wo, rfl⟩ : ∃ wo : World, wo = wr := ⟨_, rfl⟩
      obtain ⟨k, rfl, hk, HBO, HP⟩ := hrel
      obtain ⟨hzo, hbo, ⟨q0, q1, q2, q3⟩, hrow⟩ := HS.out wo HBO.out
      have HBW := Lib.hid hbo
      clear hbo
      by_cases hlt : k < E.length
      · have hkI : (k : Int) < (E.length : Int) := by omega
        obtain ⟨Lk, hLk⟩ : ∃ Lk, Lk = (E[k]!).1 := ⟨_, rfl⟩
        obtain ⟨Ok, hOk⟩ : ∃ Ok, Ok = (E[k]!).2 := ⟨_, rfl⟩
        have HOPk : Hid (Opn m Lk Ok) := by
          show Opn m Lk Ok
          rw [hLk, hOk]
          exact HEO.out.all E[k]! (by rw [getElem!_pos E k hlt]; exact List.getElem_mem hlt)
        have HLK := Lib.hid hLk
        have HOK2 := Lib.hid hOk
        have hLk30 := opn_len (good_ok HG.out) HOPk.out
        have he := hrow.each k (by simpa using hlt)
        rw [lisE_at hlt, ← hLk] at he
        obtain ⟨aK, cK, hvk, hik⟩ := he.ic
        have ek := hrow.cell (i := k) (by simpa using hlt)
        rw [hvk] at ek
        have hgz := hrow.gs
        have HIK := Lib.hid hik
        have hzl : w.heap.size < wo.heap.size := by omega
        have HS2 : Hid (∀ W, Below wo.heap.size wo W → W.cell? ⟨w.heap.size, 0, none⟩ = some (.int .i64 m.size) ∧ W.cell? ⟨w.heap.size, 1, none⟩ = some (.slice ad m.doors.length cd) ∧ W.cell? ⟨w.heap.size, 2, none⟩ = some (.slice ak m.keys.length ck) ∧ W.cell? ⟨w2.heap.size, 0, none⟩ = some (.slice (some ⟨g, 0, none⟩) E.length c) ∧ W.cell? ⟨g, k, none⟩ = some (.slice aK Lk.length cK)) := fun W hW => ⟨(hW.cell (p := ⟨w.heap.size, 0, none⟩) hzl).trans q0, (hW.cell (p := ⟨w.heap.size, 1, none⟩) hzl).trans q1, (hW.cell (p := ⟨w.heap.size, 2, none⟩) hzl).trans q2, (hW.cell (p := ⟨w2.heap.size, 0, none⟩) hzo).trans q3, (hW.cell (p := ⟨g, k, none⟩) hgz).trans ek⟩
        clear hLk hOk he hvk hik hrow
        go_upto_region 7 with fail
        go_cut [26] (fun s wx => s = .bool (wonB m Ok) ∧ Hid (Below wo.heap.size wo wx))
        case first =>
          go_region_held3 (fun W => W.cell? ⟨w.heap.size, 0, none⟩ = some (.int .i64 m.size) ∧ W.cell? ⟨w.heap.size, 1, none⟩ = some (.slice ad m.doors.length cd) ∧ W.cell? ⟨w.heap.size, 2, none⟩ = some (.slice ak m.keys.length ck) ∧ W.cell? ⟨w2.heap.size, 0, none⟩ = some (.slice (some ⟨g, 0, none⟩) E.length c) ∧ W.cell? ⟨g, k, none⟩ = some (.slice aK Lk.length cK))
            (exact HS2.out _ (by repeat (first | exact Below.refl _ _ | exact HB8.out | apply Below.drew | apply below_drewN | (refine Below.setCell ?_ (by first | omega | (simp; done) | (simp; omega) | (dsimp only; omega)) _) | (refine Below.alloc ?_ (by first | omega | (simp; done) | (simp; omega) | (dsimp only; omega)) _))))
            ((go_at_call 86; refine (l7Wins_c _ m Ok _ _ _ Lk _ rfl ((hm.later HBW.out).later (by repeat (first | exact Below.refl _ _ | apply Below.drew | apply below_drewN | (refine Below.setCell ?_ (by first | omega | (simp; done) | (simp; omega) | (dsimp only; omega)) _) | (refine Below.alloc ?_ (by first | omega | (simp; done) | (simp; omega) | (dsimp only; omega)) _)))) (good_ok HG.out) (HIK.out.later (by repeat (first | exact Below.refl _ _ | apply Below.drew | apply below_drewN | (refine Below.setCell ?_ (by first | omega | (simp; done) | (simp; omega) | (dsimp only; omega)) _) | (refine Below.alloc ?_ (by first | omega | (simp; done) | (simp; omega) | (dsimp only; omega)) _)))) (by omega) (opn_ok (good_ok HG.out) HOPk.out)).mono ?_; rintro e w8 ⟨rfl, hb8⟩; have HB8 : Hid (Below wo.heap.size wo w8) := (Below.refl _ _).drew.trans hb8; clear hb8))
          all_goals
            go_wp2_with fail
            go_meet
            case rel => exact ⟨rfl, HB8⟩
        case rest =>
          obtain ⟨rfl, HBC⟩ := hcut
          obtain ⟨t0, t1, t2, t3, t4⟩ := HS2.out _ HBC.out
          clear q0 q1 q2 q3 ek HS2
          cases hw : wonB m Ok
          case false =>
            have HPK : Hid (∀ j, j < k + 1 → wonB m (E[j]!).2 = false) := by
              intro j hj
              rcases Nat.lt_or_ge j k with h | h
              · exact HP.out j h
              · obtain rfl : j = k := by omega
                rw [← HOK2.out]; exact hw
            clear hw
            go_wp2
            go_roundw
            case rel => exact ⟨k + 1, by go_num, by omega, HBO.out.trans (HBC.out.mono (by omega)), HPK⟩
            case measure => simp [intOf]; omega
          case true =>
            have HF : Hid (fstE E (wonB m) = some Lk) := by
              show _ = _
              rw [fstE_at hlt HP.out (by rw [← HOK2.out]; exact hw), ← HLK.out]
            clear hw
            have HIF := Lib.hid (HIK.out.later HBC.out)
            go_wp2
            go_ret2
            rw [HF.out] at HR HB
            exact ⟨_, _, by rw [← HR.out, ← HB.out]; rfl, by rw [← HR.out]; exact HIF.out, below_then HBW.out HBC.out⟩
      · obtain rfl : k = E.length := by omega
        have HF : Hid (fstE E (wonB m) = none) := fstE_none HP.out
        have HBF := Lib.hid (HBW.out.alloc HBW.out.size (.cells #[] 3))
        go_wp2
        go_ret2
        rw [HF.out] at HR HB
        exact ⟨_, _, by rw [← HR.out, ← HB.out]; rfl, by rw [← HR.out]; exact ic_nil _ _, HBF.out⟩
end Go.Proofs.Ytcjcgcgcloanpaa

namespace Go.Proofs.Ytcjcgcgcloanpaa
open Go.RowKit Go.KD
attribute [local go_sem] later_cell later_frozen
set_option maxRecDepth 100000 in
theorem l7SearchE_c (v : Value) (m : Mz) (aB : Option Addr) (cB nB : Nat) (L : List Int) (O : Nat) (w : World) (hnB : nB = L.length) (hm : MzAt w v m) (hg : goodB m = true) (hL : IC w aB L) (hOp : Opn m L O) (E : List En) (hE : E = srF m [((L, O) : En)]) : Calls Try.prog 99 #[v, .slice aB nB cB] w fun e w' =>
    ∃ g c gc cc vs, e = .returned (.agg #[.slice (some ⟨g, 0, none⟩) E.length c, .slice (some ⟨gc, 0, none⟩) E.length cc]) ∧ (∃ lo x y, RwS false w' lo 25 3 g c x y vs (lisE E)) ∧ Below w.heap.size w w' := by
  rw [hE]
  refine (l7Search_c v m aB cB nB L O w hnB hm hg hL hOp).mono ?_
  rintro e w' ⟨g, c, gc, cc, vs, h1, h2, -, h4⟩
  exact ⟨g, c, gc, cc, vs, h1, h2, h4⟩
set_option maxRecDepth 100000 in
set_option maxHeartbeats 4000000 in
theorem l7Hope_c (v : Value) (m : Mz) (aB : Option Addr) (cB nB : Nat) (L : List Int) (O : Nat) (w : World) (hnB : nB = L.length) (hm : MzAt w v m) (b1 : goodB m = true) (hL : IC w aB L) (hOp : Opn m L O) : Calls Try.prog 90 #[v, .slice aB nB cB] w fun e w' => e = .returned (.bool (stillF m O)) ∧ Below w.heap.size w w' := by
  subst hnB
  have hM := hm
  obtain ⟨⟨ad, cd, ak, ck, rfl, hd, hk'⟩, nd, nk⟩ := hM
  obtain ⟨E, hE, hEO, hle, hR⟩ := sr_pack b1 hOp
  have HR := Lib.hid hR
  have HEO := Lib.hid hEO
  have HE := Lib.hid hE
  have HG := Lib.hid b1
  clear hE hEO hR
  obtain ⟨q0, q1, q2, hz⟩ := box3 (Below.refl (w.heap.size + 1) (w.alloc (.cells #[.int .i64 m.size, .slice ad m.doors.length cd, .slice ak m.keys.length ck] 27))) (Nat.le_refl _)
  go_enter Try.func90, Try.ntmps90
  go_wp2_with fail
  refine (l7SearchE_c _ m _ _ _ L O _ rfl (hm.later (by (repeat (first | exact Below.refl _ _ | apply Below.drew | apply below_drewN | (refine Below.setCell ?_ (by first | omega | (simp; done) | (simp; omega) | (dsimp only; omega)) _) | (refine Below.alloc ?_ (by first | omega | (simp; done) | (simp; omega) | (dsimp only; omega)) _))))) HG.out (hL.later (by (repeat (first | exact Below.refl _ _ | apply Below.drew | apply below_drewN | (refine Below.setCell ?_ (by first | omega | (simp; done) | (simp; omega) | (dsimp only; omega)) _) | (refine Below.alloc ?_ (by first | omega | (simp; done) | (simp; omega) | (dsimp only; omega)) _))))) hOp E HE.out).mono ?_
  rintro e w2 ⟨g, c, gc, cc, vs, rfl, ⟨lo, xx, yy, hr2⟩, hb2⟩
  have HR2 := Lib.hid hr2
  have HB2 : Hid (Below w.heap.size w w2) := below_then (by (repeat (first | exact Below.refl _ _ | apply Below.drew | apply below_drewN | (refine Below.setCell ?_ (by first | omega | (simp; done) | (simp; omega) | (dsimp only; omega)) _) | (refine Below.alloc ?_ (by first | omega | (simp; done) | (simp; omega) | (dsimp only; omega)) _)))) hb2
  have hz2 : w.heap.size + 1 ≤ w2.heap.size := by have := hb2.size; simpa using this
  have r0 := (hb2.cell (p := ⟨w.heap.size, 0, none⟩) (by simp)).trans q0
  have r1 := (hb2.cell (p := ⟨w.heap.size, 1, none⟩) (by simp)).trans q1
  have r2 := (hb2.cell (p := ⟨w.heap.size, 2, none⟩) (by simp)).trans q2
  clear hr2 hb2 q0 q1 q2
  have HBS : Hid (Below (w2.heap.size + 1) (w2.alloc (.cells #[.slice (some ⟨g, 0, none⟩) E.length c, .slice (some ⟨gc, 0, none⟩) E.length cc] 73)) (w2.alloc (.cells #[.slice (some ⟨g, 0, none⟩) E.length c, .slice (some ⟨gc, 0, none⟩) E.length cc] 73))) := Below.refl _ _
  have HS : Hid (∀ W, Below (w2.heap.size + 1) (w2.alloc (.cells #[.slice (some ⟨g, 0, none⟩) E.length c, .slice (some ⟨gc, 0, none⟩) E.length cc] 73)) W → w2.heap.size < W.heap.size ∧ Below w.heap.size w W ∧ (W.cell? ⟨w.heap.size, 0, none⟩ = some (.int .i64 m.size) ∧ W.cell? ⟨w.heap.size, 1, none⟩ = some (.slice ad m.doors.length cd) ∧ W.cell? ⟨w.heap.size, 2, none⟩ = some (.slice ak m.keys.length ck) ∧ W.cell? ⟨w2.heap.size, 0, none⟩ = some (.slice (some ⟨g, 0, none⟩) E.length c)) ∧ RwS false W lo 25 3 g c xx yy vs (lisE E)) := by
    intro W hW
    have hb : Below w2.heap.size w2 W := ((Below.refl _ _).alloc (Nat.le_refl _) _).trans (hW.mono (by omega))
    refine ⟨by have := hW.size; simp at this; omega, below_then HB2.out hb, ⟨(hb.cell (p := ⟨w.heap.size, 0, none⟩) (by show w.heap.size < _; omega)).trans r0, (hb.cell (p := ⟨w.heap.size, 1, none⟩) (by show w.heap.size < _; omega)).trans r1, (hb.cell (p := ⟨w.heap.size, 2, none⟩) (by show w.heap.size < _; omega)).trans r2, (hW.cell (p := ⟨w2.heap.size, 0, none⟩) (by show w2.heap.size < _; omega)).trans (by simp [go_sem])⟩, HR2.out.later hb⟩
  clear r0 r1 r2 HR2
  go_wp2_with fail
  go_loopw [6] (fun i wr => ∃ k : Nat, i = .int .i64 k ∧ k ≤ E.length ∧ Hid (Below (w2.heap.size + 1) (w2.alloc (.cells #[.slice (some ⟨g, 0, none⟩) E.length c, .slice (some ⟨gc, 0, none⟩) E.length cc] 73)) wr) ∧ Hid (∀ j, j < k → wonB m (E[j]!).2 = false)) (fun i _ => E.length - (intOf i).toNat)
  case atStart => exact ⟨0, rfl, Nat.zero_le _, HBS, fun j hj => by omega⟩
  case round =>
    clear HBS
    obtain ⟨wo, rfl⟩ : ∃ wo : World, wo = wr := ⟨_, rfl⟩
    obtain ⟨k, rfl, hk, HBO, HP⟩ := hrel
    obtain ⟨hzo, hbo, ⟨q0, q1, q2, q3⟩, hrow⟩ := HS.out wo HBO.out
    have HBW := Lib.hid hbo
    clear hbo
    by_cases hlt : k < E.length
    · have hkI : (k : Int) < (E.length : Int) := by omega
      obtain ⟨Lk, hLk⟩ : ∃ Lk, Lk = (E[k]!).1 := ⟨_, rfl⟩
      obtain ⟨Ok, hOk⟩ : ∃ Ok, Ok = (E[k]!).2 := ⟨_, rfl⟩
      have HOPk : Hid (Opn m Lk Ok) := by
        show Opn m Lk Ok
        rw [hLk, hOk]
        exact HEO.out.all E[k]! (by rw [getElem!_pos E k hlt]; exact List.getElem_mem hlt)
      have HLK := Lib.hid hLk
      have HOK2 := Lib.hid hOk
      have hLk30 := opn_len (good_ok HG.out) HOPk.out
      have he := hrow.each k (by simpa using hlt)
      rw [lisE_at hlt, ← hLk] at he
      obtain ⟨aK, cK, hvk, hik⟩ := he.ic
      have ek := hrow.cell (i := k) (by simpa using hlt)
      rw [hvk] at ek
      have hgz := hrow.gs
      have HIK := Lib.hid hik
      have hzl : w.heap.size < wo.heap.size := by omega
      have HS2 : Hid (∀ W, Below wo.heap.size wo W → W.cell? ⟨w.heap.size, 0, none⟩ = some (.int .i64 m.size) ∧ W.cell? ⟨w.heap.size, 1, none⟩ = some (.slice ad m.doors.length cd) ∧ W.cell? ⟨w.heap.size, 2, none⟩ = some (.slice ak m.keys.length ck) ∧ W.cell? ⟨w2.heap.size, 0, none⟩ = some (.slice (some ⟨g, 0, none⟩) E.length c) ∧ W.cell? ⟨g, k, none⟩ = some (.slice aK Lk.length cK)) := fun W hW => ⟨(hW.cell (p := ⟨w.heap.size, 0, none⟩) hzl).trans q0, (hW.cell (p := ⟨w.heap.size, 1, none⟩) hzl).trans q1, (hW.cell (p := ⟨w.heap.size, 2, none⟩) hzl).trans q2, (hW.cell (p := ⟨w2.heap.size, 0, none⟩) hzo).trans q3, (hW.cell (p := ⟨g, k, none⟩) hgz).trans ek⟩
      clear hLk hOk he hvk hik hrow
      go_upto_region 5 with fail
      go_cut [23] (fun s wx => s = .bool (wonB m Ok) ∧ Hid (Below wo.heap.size wo wx))
      case first =>
        go_region_held3 (fun W => W.cell? ⟨w.heap.size, 0, none⟩ = some (.int .i64 m.size) ∧ W.cell? ⟨w.heap.size, 1, none⟩ = some (.slice ad m.doors.length cd) ∧ W.cell? ⟨w.heap.size, 2, none⟩ = some (.slice ak m.keys.length ck) ∧ W.cell? ⟨w2.heap.size, 0, none⟩ = some (.slice (some ⟨g, 0, none⟩) E.length c) ∧ W.cell? ⟨g, k, none⟩ = some (.slice aK Lk.length cK))
          (exact HS2.out _ (by repeat (first | exact Below.refl _ _ | exact HB8.out | apply Below.drew | apply below_drewN | (refine Below.setCell ?_ (by first | omega | (simp; done) | (simp; omega) | (dsimp only; omega)) _) | (refine Below.alloc ?_ (by first | omega | (simp; done) | (simp; omega) | (dsimp only; omega)) _))))
          ((go_at_call 86; refine (l7Wins_c _ m Ok _ _ _ Lk _ rfl ((hm.later HBW.out).later (by repeat (first | exact Below.refl _ _ | apply Below.drew | apply below_drewN | (refine Below.setCell ?_ (by first | omega | (simp; done) | (simp; omega) | (dsimp only; omega)) _) | (refine Below.alloc ?_ (by first | omega | (simp; done) | (simp; omega) | (dsimp only; omega)) _)))) (good_ok HG.out) (HIK.out.later (by repeat (first | exact Below.refl _ _ | apply Below.drew | apply below_drewN | (refine Below.setCell ?_ (by first | omega | (simp; done) | (simp; omega) | (dsimp only; omega)) _) | (refine Below.alloc ?_ (by first | omega | (simp; done) | (simp; omega) | (dsimp only; omega)) _)))) (by omega) (opn_ok (good_ok HG.out) HOPk.out)).mono ?_; rintro e w8 ⟨rfl, hb8⟩; have HB8 : Hid (Below wo.heap.size wo w8) := (Below.refl _ _).drew.trans hb8; clear hb8))
        all_goals
          go_wp2_with fail
          go_meet
          case rel => exact ⟨rfl, HB8⟩
      case rest =>
        obtain ⟨rfl, HBC⟩ := hcut
        obtain ⟨t0, t1, t2, t3, t4⟩ := HS2.out _ HBC.out
        clear q0 q1 q2 q3 ek HS2
        cases hw : wonB m Ok
        case false =>
          have HPK : Hid (∀ j, j < k + 1 → wonB m (E[j]!).2 = false) := by
            intro j hj
            rcases Nat.lt_or_ge j k with h | h
            · exact HP.out j h
            · obtain rfl : j = k := by omega
              rw [← HOK2.out]; exact hw
          clear hw
          go_wp2
          go_roundw
          case rel => exact ⟨k + 1, by go_num, by omega, HBO.out.trans (HBC.out.mono (by omega)), HPK⟩
          case measure => simp [intOf]; omega
        case true =>
          have HF : Hid (stillF m O = true) := by
            show _ = _
            rw [← HR.out, List.any_eq_true]
            exact ⟨E[k]!, by rw [getElem!_pos E k hlt]; exact List.getElem_mem hlt, by rw [← HOK2.out]; exact hw⟩
          clear hw
          go_wp2
          go_ret
          exact ⟨by rw [HF.out]; rfl, below_then HBW.out HBC.out⟩
    · obtain rfl : k = E.length := by omega
      have HF : Hid (stillF m O = false) := by
        show _ = _
        rw [← HR.out, List.any_eq_false]
        intro e he
        obtain ⟨j, hj, rfl⟩ := List.mem_iff_getElem.1 he
        have := HP.out j hj
        rw [getElem!_pos E j hj] at this
        rw [this]; simp
      go_wp2
      go_ret
      exact ⟨by rw [HF.out]; rfl, HBW.out⟩
set_option maxRecDepth 100000 in
set_option maxHeartbeats 8000000 in
theorem specHopefulLocks_c (v : Value) (m : Mz) (aL : Option Addr) (cL : Nat) (L : List Int) (w : World) (R : List Int) (b : Bool) (hp : pHopefulLocks m L = (R, b)) (hm : MzAt w v m) (hL : IC w aL L) (hLl : L.length ≤ 1048576) (wl : ∀ y ∈ L, wfI y) (hcap : 0 < L.length → L.length ≤ cL ∧ cL ≤ maxLen) : Calls Try.prog 20 #[v, .slice aL L.length cL] w fun e w' =>
    ∃ aw cw, e = .returned (.tuple #[.slice aw R.length cw, .bool b]) ∧ IC w' aw R ∧ Below w.heap.size w w' := by
  have hM := hm
  obtain ⟨⟨ad, cd, ak, ck, rfl, hd, hk'⟩, nd, nk⟩ := hM
  obtain ⟨i0, ji, jz0, jz1, jz2⟩ := info_parts infoI
  have HCAP := Lib.hid hcap; clear hcap wl
  cases b1 : askOB m L
  · have hp' : pHopefulLocks m L = ([], false) := by simp [pHopefulLocks, b1]
    rw [hp'] at hp
    cases hp
    clear hp'
    go_enter Try.func20, Try.ntmps20
    go_wp2_with (go_at_call 79; refine (l7Ask_c _ m _ _ L _ (hm.later (by (repeat (first | exact Below.refl _ _ | apply Below.drew | apply below_drewN | (refine Below.setCell ?_ (by first | omega | (simp; done) | (simp; omega) | (dsimp only; omega)) _) | (refine Below.alloc ?_ (by first | omega | (simp; done) | (simp; omega) | (dsimp only; omega)) _))))) (hL.later (by (repeat (first | exact Below.refl _ _ | apply Below.drew | apply below_drewN | (refine Below.setCell ?_ (by first | omega | (simp; done) | (simp; omega) | (dsimp only; omega)) _) | (refine Below.alloc ?_ (by first | omega | (simp; done) | (simp; omega) | (dsimp only; omega)) _))))) hLl HCAP.out).mono ?_; rintro e w1 ⟨rfl, hb1⟩; obtain ⟨hc1, hf1, hz1⟩ := bcell3 hb1; have HB1 : Hid (Below w.heap.size w w1) := below_then (by (repeat (first | exact Below.refl _ _ | apply Below.drew | apply below_drewN | (refine Below.setCell ?_ (by first | omega | (simp; done) | (simp; omega) | (dsimp only; omega)) _) | (refine Below.alloc ?_ (by first | omega | (simp; done) | (simp; omega) | (dsimp only; omega)) _)))) hb1; have HBX : Hid (Below (w.heap.size + 1) (w.alloc (.cells #[.int .i64 m.size, .slice ad m.doors.length cd, .slice ak m.keys.length ck] 27)) w1) := Below.trans ((Below.refl _ _).alloc (by simp) _) (hb1.mono (by simp)); have HE1 := Lib.hid hb1; simp only [b1])
    go_ret2
    exact ⟨_, _, rfl, ic_nil _ _, HB1.out⟩
  · have b2 : goodB m = true ∧ opsB m L = true := by simpa [askOB] using b1
    have HG := Lib.hid b2.1
    have OK := Lib.hid (good_ok b2.1)
    have HOPN : Hid (Opn m L (opN m L)) := opn_of b2.2
    have HOP := Lib.hid (ops_ok OK.out b2.2)
    have hL30 := op_len OK.out HOP.out
    clear b2
    obtain ⟨q0, q1, q2, hz⟩ := box3 (Below.refl (w.heap.size + 1) (w.alloc (.cells #[.int .i64 m.size, .slice ad m.doors.length cd, .slice ak m.keys.length ck] 27))) (Nat.le_refl _)
    cases b3 : wonB m (opN m L)
    case true =>
      have hp' : pHopefulLocks m L = ([], false) := by simp [pHopefulLocks, b3]
      rw [hp'] at hp
      cases hp
      clear hp'
      go_enter Try.func20, Try.ntmps20
      go_wp2_with (first
        | (go_at_call 79; refine (l7Ask_c _ m _ _ L _ (hm.later (by (repeat (first | exact Below.refl _ _ | apply Below.drew | apply below_drewN | (refine Below.setCell ?_ (by first | omega | (simp; done) | (simp; omega) | (dsimp only; omega)) _) | (refine Below.alloc ?_ (by first | omega | (simp; done) | (simp; omega) | (dsimp only; omega)) _))))) (hL.later (by (repeat (first | exact Below.refl _ _ | apply Below.drew | apply below_drewN | (refine Below.setCell ?_ (by first | omega | (simp; done) | (simp; omega) | (dsimp only; omega)) _) | (refine Below.alloc ?_ (by first | omega | (simp; done) | (simp; omega) | (dsimp only; omega)) _))))) hLl HCAP.out).mono ?_; rintro e w1 ⟨rfl, hb1⟩; obtain ⟨hc1, hf1, hz1⟩ := bcell3 hb1; have HB1 : Hid (Below w.heap.size w w1) := below_then (by (repeat (first | exact Below.refl _ _ | apply Below.drew | apply below_drewN | (refine Below.setCell ?_ (by first | omega | (simp; done) | (simp; omega) | (dsimp only; omega)) _) | (refine Below.alloc ?_ (by first | omega | (simp; done) | (simp; omega) | (dsimp only; omega)) _)))) hb1; have HBX : Hid (Below (w.heap.size + 1) (w.alloc (.cells #[.int .i64 m.size, .slice ad m.doors.length cd, .slice ak m.keys.length ck] 27)) w1) := Below.trans ((Below.refl _ _).alloc (by simp) _) (hb1.mono (by simp)); have HE1 := Lib.hid hb1; simp only [b1]; obtain ⟨a0, a1, a2, az⟩ := box3 HBX.out (Nat.le_refl _))
        | (go_at_call 86; refine (l7Wins_c _ m (opN m L) _ _ _ L _ rfl (hm.later HB1.out) OK.out (hL.later HB1.out) hLl HOP.out).mono ?_; rintro e w2 ⟨rfl, hb2⟩; have HB2 : Hid (Below w.heap.size w w2) := below_then HB1.out hb2; have HBX2 : Hid (Below (w.heap.size + 1) (w.alloc (.cells #[.int .i64 m.size, .slice ad m.doors.length cd, .slice ak m.keys.length ck] 27)) w2) := HBX.out.trans (hb2.mono (by have := HBX.out.size; simpa using this)); have HE2 := Lib.hid (below_then HE1.out hb2); simp only [b3]))
      go_ret2
      exact ⟨_, _, rfl, ic_nil _ _, HB2.out⟩
    case false =>
      have hp' : pHopefulLocks m L = (hopeL m (opN m L) L, true) := by simp [pHopefulLocks, b1, b3]
      rw [hp'] at hp
      simp only [Prod.mk.injEq] at hp
      obtain ⟨hR, rfl⟩ := hp
      have HR := Lib.hid hR
      obtain ⟨O, hO⟩ : ∃ O, O = opN m L := ⟨_, rfl⟩
      rw [← hO] at HOPN HOP HR b3
      have HO := Lib.hid hO
      obtain ⟨nxt, hnxt⟩ : ∃ nxt, nxt = nextL m O L := ⟨_, rfl⟩
      have hnl : nxt.length ≤ 10 := by rw [hnxt]; exact Nat.le_trans (nextL_lks m _ L) (good_lks HG.out)
      have HNXT := Lib.hid hnxt
      obtain ⟨p, hp⟩ : ∃ p : Int → Bool, p = fun k => !stillF m (setN O k) := ⟨_, rfl⟩
      have HPP : Hid (∀ k, p k = !stillF m (setN O k)) := by rw [hp]; exact fun _ => rfl
      have HRK : Hid (R = keepL p nxt) := by rw [← HR.out, hp, hnxt]; rfl
      clear hnxt hp' hR hO hp HR
      go_enter Try.func20, Try.ntmps20
      go_wp2_with (first
        | (go_at_call 79; refine (l7Ask_c _ m _ _ L _ (hm.later (by (repeat (first | exact Below.refl _ _ | apply Below.drew | apply below_drewN | (refine Below.setCell ?_ (by first | omega | (simp; done) | (simp; omega) | (dsimp only; omega)) _) | (refine Below.alloc ?_ (by first | omega | (simp; done) | (simp; omega) | (dsimp only; omega)) _))))) (hL.later (by (repeat (first | exact Below.refl _ _ | apply Below.drew | apply below_drewN | (refine Below.setCell ?_ (by first | omega | (simp; done) | (simp; omega) | (dsimp only; omega)) _) | (refine Below.alloc ?_ (by first | omega | (simp; done) | (simp; omega) | (dsimp only; omega)) _))))) hLl HCAP.out).mono ?_; rintro e w1 ⟨rfl, hb1⟩; obtain ⟨hc1, hf1, hz1⟩ := bcell3 hb1; have HB1 : Hid (Below w.heap.size w w1) := below_then (by (repeat (first | exact Below.refl _ _ | apply Below.drew | apply below_drewN | (refine Below.setCell ?_ (by first | omega | (simp; done) | (simp; omega) | (dsimp only; omega)) _) | (refine Below.alloc ?_ (by first | omega | (simp; done) | (simp; omega) | (dsimp only; omega)) _)))) hb1; have HBX : Hid (Below (w.heap.size + 1) (w.alloc (.cells #[.int .i64 m.size, .slice ad m.doors.length cd, .slice ak m.keys.length ck] 27)) w1) := Below.trans ((Below.refl _ _).alloc (by simp) _) (hb1.mono (by simp)); have HE1 := Lib.hid hb1; simp only [b1]; obtain ⟨a0, a1, a2, az⟩ := box3 HBX.out (Nat.le_refl _))
        | (go_at_call 86; refine (l7Wins_c _ m O _ _ _ L _ rfl (hm.later HB1.out) OK.out (hL.later HB1.out) hLl HOP.out).mono ?_; rintro e w2 ⟨rfl, hb2⟩; have HB2 : Hid (Below w.heap.size w w2) := below_then HB1.out hb2; have HBX2 : Hid (Below (w.heap.size + 1) (w.alloc (.cells #[.int .i64 m.size, .slice ad m.doors.length cd, .slice ak m.keys.length ck] 27)) w2) := HBX.out.trans (hb2.mono (by have := HBX.out.size; simpa using this)); have HE2 := Lib.hid (below_then HE1.out hb2); simp only [b3]; obtain ⟨s0, s1, s2, sz⟩ := box3 HBX2.out (Nat.le_refl _))
        | (go_at_call 84; refine (l7Next_c _ m O _ _ L _ (hm.later HB2.out) OK.out (hL.later HB2.out) (by omega) HOP.out).mono ?_; rintro e w3 ⟨u3, rfl, ho3, hb3⟩; rw [← HNXT.out] at ho3; obtain ⟨a3, c3, rfl⟩ := own_slice ho3; have HO3 : Hid (Own w2.heap.size w3.heap.size w3 3 1 (.slice a3 nxt.length c3) nxt.length (ints nxt)) := Own.of ho3; have HBX3 : Hid (Below (w.heap.size + 1) (w.alloc (.cells #[.int .i64 m.size, .slice ad m.doors.length cd, .slice ak m.keys.length ck] 27)) w3) := HBX2.out.trans (hb3.mono (by have := HBX2.out.size; simpa using this)); have HE3 : Hid (w3.ownsRow (w.heap.size + 1) 3 1 (.slice (some ⟨w.heap.size + 1, 0, none⟩) 0 0) 0 (ints [])) := own_below (own_none (w.alloc (.cells #[.int .i64 m.size, .slice ad m.doors.length cd, .slice ak m.keys.length ck] 27)) (by simp) (by simp)) (below_then HE2.out hb3); clear ho3))
      have hz2 : w.heap.size + 2 ≤ w2.heap.size := by have := HE2.out.size; simpa using this
      have hz3 := hb3.size
      clear hb3 hb2 hb1
      go_loopw [6, 8] (fun u n wr => ∃ go co k : Nat, n = .int .i64 k ∧ k ≤ nxt.length ∧ u = .slice (some ⟨go, 0, none⟩) (keepK p nxt k).length co ∧ (go < w2.heap.size ∨ w3.heap.size ≤ go) ∧ w3.heap.size ≤ wr.heap.size ∧ Hid (wr.ownsRow (w.heap.size + 1) 3 1 (.slice (some ⟨go, 0, none⟩) (keepK p nxt k).length co) (keepK p nxt k).length (ints (keepK p nxt k))) ∧ Hid (Below (w.heap.size + 1) (w.alloc (.cells #[.int .i64 m.size, .slice ad m.doors.length cd, .slice ak m.keys.length ck] 27)) wr) ∧ Hid (Own w2.heap.size w3.heap.size wr 3 1 (.slice a3 nxt.length c3) nxt.length (ints nxt))) (fun _ n _ => nxt.length - (intOf n).toNat)
      case atStart => exact ⟨w.heap.size + 1, 0, 0, rfl, Nat.zero_le _, rfl, by omega, Nat.le_refl _, HE3, HBX3, HO3⟩
      case round =>
        clear HE3 HBX3 HO3
        obtain ⟨wi, rfl⟩ : ∃ wi : World, wi = wr := ⟨_, rfl⟩
        obtain ⟨go, co, k, rfl, hk, rfl, hgo, hzi, HOO, HBB, HON⟩ := hrel
        obtain ⟨q0, q1, q2, z1⟩ := box3 HBB.out (Nat.le_refl _)
        have HBw : Hid (Below w.heap.size w wi) := below_box HBB.out (by omega)
        have hkl := keepK_le p nxt k
        by_cases hlt : k < nxt.length
        · have hkI : (k : Int) < (nxt.length : Int) := by omega
          obtain ⟨b8, off8, xI, ha8, HX, hbs8, e8⟩ := (ic_of HON.out).at k hlt
          subst ha8
          have hmem : xI ∈ nextL m O L := by rw [← HNXT.out, ← HX.out, getElem!_pos nxt k hlt]; exact List.getElem_mem hlt
          have HOX : Hid (Opn m (L ++ [xI]) (setN O xI)) := opn_next HOPN.out hmem
          have hLn : (L ++ [xI]).length = L.length + 1 := by simp
          have HLN := Lib.hid hLn
          have HIK := Lib.hid (hL.later HBw.out)
          have HS2 : Hid (∀ W, Below wi.heap.size wi W → W.cell? ⟨w.heap.size, 0, none⟩ = some (.int .i64 m.size) ∧ W.cell? ⟨w.heap.size, 1, none⟩ = some (.slice ad m.doors.length cd) ∧ W.cell? ⟨w.heap.size, 2, none⟩ = some (.slice ak m.keys.length ck) ∧ W.cell? ⟨b8, off8 + k, none⟩ = some (.int .i64 xI)) := fun W hW => ⟨(hW.cell (p := ⟨w.heap.size, 0, none⟩) z1).trans q0, (hW.cell (p := ⟨w.heap.size, 1, none⟩) z1).trans q1, (hW.cell (p := ⟨w.heap.size, 2, none⟩) z1).trans q2, (hW.cell (p := ⟨b8, off8 + k, none⟩) hbs8).trans e8⟩
          clear hmem hLn
          go_upto_region 8 with fail
          go_cut [38] (fun s wx => s = .bool (stillF m (setN O xI)) ∧ Hid (Below wi.heap.size wi wx))
          case first =>
            go_region_held3 (fun W => W.cell? ⟨w.heap.size, 0, none⟩ = some (.int .i64 m.size) ∧ W.cell? ⟨w.heap.size, 1, none⟩ = some (.slice ad m.doors.length cd) ∧ W.cell? ⟨w.heap.size, 2, none⟩ = some (.slice ak m.keys.length ck) ∧ W.cell? ⟨b8, off8 + k, none⟩ = some (.int .i64 xI))
              (exact HS2.out _ (by repeat (first | exact Below.refl _ _ | exact HB8.out | exact HB5.out | exact HB4.out | apply Below.drew | apply below_drewN | (refine Below.setCell ?_ (by first | omega | (simp; done) | (simp; omega) | (dsimp only; omega)) _) | (refine Below.alloc ?_ (by first | omega | (simp; done) | (simp; omega) | (dsimp only; omega)) _))))
              (first
                | (go_at_call 91; refine (l1Own_c _ _ _ L _ rfl (HIK.out.later (by repeat (first | exact Below.refl _ _ | apply Below.drew | apply below_drewN | (refine Below.setCell ?_ (by first | omega | (simp; done) | (simp; omega) | (dsimp only; omega)) _) | (refine Below.alloc ?_ (by first | omega | (simp; done) | (simp; omega) | (dsimp only; omega)) _)))) (by omega)).mono ?_; rintro e w4 ⟨v4, rfl, ho4, hb4⟩; obtain ⟨a4, c4, rfl⟩ := own_slice ho4; have HB4 : Hid (Below wi.heap.size wi w4) := Below.trans (by repeat (first | exact Below.refl _ _ | apply Below.drew | apply below_drewN | (refine Below.setCell ?_ (by first | omega | (simp; done) | (simp; omega) | (dsimp only; omega)) _) | (refine Below.alloc ?_ (by first | omega | (simp; done) | (simp; omega) | (dsimp only; omega)) _))) (hb4.mono (by first | exact Nat.le_refl _ | (simp; done) | (simp; omega))); have HO4 : Hid (w4.ownsRow wi.heap.size 3 1 (.slice a4 L.length c4) L.length (ints L)) := (Own.mono (Own.of ho4) (by first | exact Nat.le_refl _ | (simp; done) | (simp; omega)) (Nat.le_refl _)).row; obtain ⟨hc4, hf4, hz4⟩ := bcell3 hb4; (try simp only [World.size_alloc, World.size_drew] at hz4 hc4 hf4); have hz4' : wi.heap.size ≤ w4.heap.size := HB4.out.size; clear ho4 hb4)
                | (refine step_append_below _ wi wi.heap.size (by repeat (first | exact Below.refl _ _ | exact HB4.out | apply Below.drew | apply below_drewN | (refine Below.setCell ?_ (by first | omega | (simp; done) | (simp; omega) | (dsimp only; omega)) _) | (refine Below.alloc ?_ (by first | omega | (simp; done) | (simp; omega) | (dsimp only; omega)) _))) (by rfl) _ _ 25 (by rfl) 3 i0 (.int .i64 0) 1 8 Try.underlying25 ji jz0 jz1 jz2 rfl (by decide) (.slice a4 L.length c4) L.length (ints L) (by rfl) (HO4.out.alloc _) ⟨w4.heap.size, 0, none⟩ 1 1 [.int .i64 xI] (by rfl) rfl (news_one (by simp [go_sem])) (by simp [Value.oneCell']) (by unfold maxLen; omega) (by omega) (by first | omega | (simp; omega)) ?_; intro v5 w5 hown5 hg5 hB5; have HB5 := Lib.hid hB5; have HO5 := Lib.hid hown5; clear hown5 hg5 hB5)
                | (refine step_append_below _ wi wi.heap.size (by repeat (first | exact Below.refl _ _ | exact HB4.out | apply Below.drew | apply below_drewN | (refine Below.setCell ?_ (by first | omega | (simp; done) | (simp; omega) | (dsimp only; omega)) _) | (refine Below.alloc ?_ (by first | omega | (simp; done) | (simp; omega) | (dsimp only; omega)) _))) (by rfl) _ _ 25 (by rfl) 3 i0 (.int .i64 0) 1 8 Try.underlying25 ji jz0 jz1 jz2 rfl (by decide) (.slice a4 L.length c4) L.length (ints L) (by rfl) HO4.out ⟨wi.heap.size, 0, none⟩ 1 1 [.int .i64 xI] (by rfl) rfl (news_one (by rw [hc4 _ _ (by omega)]; simp [go_sem])) (by simp [Value.oneCell']) (by unfold maxLen; omega) (by omega) (by first | omega | (simp; omega)) ?_; intro v5 w5 hown5 hg5 hB5; have HB5 := Lib.hid hB5; have HO5 := Lib.hid hown5; clear hown5 hg5 hB5)
                | (obtain ⟨gn, cn, rfl, -, -⟩ := own_someD HO5.out (by omega); go_at_call 90; refine (l7Hope_c _ m _ _ _ (L ++ [xI]) (setN O xI) _ HLN.out.symm ((hm.later HBw.out).later (by repeat (first | exact Below.refl _ _ | exact HB5.out | apply Below.drew | apply below_drewN | (refine Below.setCell ?_ (by first | omega | (simp; done) | (simp; omega) | (dsimp only; omega)) _) | (refine Below.alloc ?_ (by first | omega | (simp; done) | (simp; omega) | (dsimp only; omega)) _)))) HG.out ((ic_of' (Own.of (by rw [ints_snoc]; exact HO5.out)) HLN.out.symm).later (by (repeat (first | exact Below.refl _ _ | apply Below.drew | apply below_drewN | (refine Below.setCell ?_ (by first | omega | (simp; done) | (simp; omega) | (dsimp only; omega)) _) | (refine Below.alloc ?_ (by first | omega | (simp; done) | (simp; omega) | (dsimp only; omega)) _))))) HOX.out).mono ?_; rintro e w8 ⟨rfl, hb8⟩; have HB8 : Hid (Below wi.heap.size wi w8) := Below.trans (by repeat (first | exact Below.refl _ _ | exact HB5.out | apply Below.drew | apply below_drewN | (refine Below.setCell ?_ (by first | omega | (simp; done) | (simp; omega) | (dsimp only; omega)) _) | (refine Below.alloc ?_ (by first | omega | (simp; done) | (simp; omega) | (dsimp only; omega)) _))) (hb8.mono (by have := HB5.out.size; first | omega | (simp; omega))); clear hb8))
            all_goals
              go_wp2_with fail
              go_meet
              case rel => exact ⟨rfl, HB8⟩
          case rest =>
            obtain ⟨rfl, HBC⟩ := hcut
            have hzc := HBC.out.size
            have HOO2 := Lib.hid (own_below HOO.out HBC.out)
            have HBB2 : Hid (Below (w.heap.size + 1) (w.alloc (.cells #[.int .i64 m.size, .slice ad m.doors.length cd, .slice ak m.keys.length ck] 27)) wc) := HBB.out.trans (HBC.out.mono (by omega))
            have HON2 : Hid (Own w2.heap.size w3.heap.size wc 3 1 (.slice (some ⟨b8, off8, none⟩) nxt.length c3) nxt.length (ints nxt)) := HON.out.later HBC.out hzi
            obtain ⟨t0, t1, t2, t8⟩ := HS2.out _ HBC.out
            have hgoz : go < wc.heap.size := (Own.of HOO2.out).top go rfl
            have hgol := own_block_lo HOO2.out (g := go) rfl
            clear HOO HBB HON HS2 q0 q1 q2 e8
            cases hs : stillF m (setN O xI)
            case false =>
              have HK : Hid (keepK p nxt (k + 1) = keepK p nxt k) := keepK_no hlt (by rw [HX.out, HPP.out, hs]; rfl)
              clear hs
              go_wp2
              go_roundw
              case rel => exact ⟨go, co, k + 1, by go_num, by omega, by rw [HK.out], hgo, by omega, by rw [HK.out]; exact HOO2, HBB2, HON2⟩
              case measure => simp [intOf]; omega
            case true =>
              have HK : Hid (keepK p nxt (k + 1) = keepK p nxt k ++ [xI]) := (by have := keepK_yes hlt (p := p) (by rw [HX.out, HPP.out, hs]; rfl); rwa [HX.out] at this)
              clear hs
              go_wp2_with (at_builtin; refine wpList_append_lies _ rfl _ _ 25 rfl (w.heap.size + 1) 3 i0 (.int .i64 0) 1 8 Try.underlying25 ji jz0 jz1 jz2 rfl (by decide) (.slice (some ⟨go, 0, none⟩) (keepK p nxt k).length co) _ _ rfl (HOO2.out.alloc _) ⟨wc.heap.size, 0, none⟩ 1 1 [.int .i64 xI] rfl rfl ?_ ?_ (by omega) ?_ ?_ ?_ (wc.heap.size + 1) ?_ ?_; (exact cell_one_new _ _ _); (simp [Value.oneCell']); (unfold maxLen; omega); omega; (simp; omega); (simp); intro g5 c5 w5 hown5 hgrow5 hat5 hlt5)
              have hA : Below wc.heap.size wc (wc.alloc (.cells #[.int .i64 xI] 3)) := (Below.refl _ _).alloc (Nat.le_refl _) _
              have HO5 : Hid (w5.ownsRow (w.heap.size + 1) 3 1 (.slice (some ⟨g5, 0, none⟩) ((keepK p nxt k).length + 1) c5) ((keepK p nxt k).length + 1) (ints (keepK p nxt k ++ [xI]))) := by rw [ints_snoc]; exact hown5
              have HG5 := Lib.hid hgrow5
              have hz5 : wc.heap.size + 1 ≤ w5.heap.size := by have := hgrow5.size; simpa using this
              have HBB5 : Hid (Below (w.heap.size + 1) (w.alloc (.cells #[.int .i64 m.size, .slice ad m.doors.length cd, .slice ak m.keys.length ck] 27)) w5) := Below.grown (HBB2.out.trans (hA.mono (by omega))) hgrow5 (by have := HBB2.out.size; simp at this; simp; omega) (fun b hb => by cases hb; omega)
              have HON5 : Hid (Own w2.heap.size w3.heap.size w5 3 1 (.slice (some ⟨b8, off8, none⟩) nxt.length c3) nxt.length (ints nxt)) := (HON2.out.later hA (by omega)).grown hgrow5 (fun g hg => by cases hg; omega)
              have hg5 : g5 < w2.heap.size ∨ w3.heap.size ≤ g5 := by rcases hat5 with h | h <;> first | omega | (have hge : go = g5 := (by simpa [Value.ownBlock] using h); omega)
              clear hown5 hgrow5 hat5
              go_wp2
              go_roundw
              case rel => exact ⟨g5, c5, k + 1, by go_num, by omega, by rw [HK.out]; simp, hg5, by omega, by rw [HK.out]; simpa using HO5, HBB5, HON5⟩
              case measure => simp [intOf]; omega
        · obtain rfl : k = nxt.length := by omega
          have HF : Hid (IC wi (some ⟨go, 0, none⟩) R) := by
            have := ic_of (Own.of HOO.out)
            rwa [keepK_all, ← HRK.out] at this
          have HRL : Hid ((keepK p nxt nxt.length).length = R.length) := by show _ = _; rw [keepK_all, ← HRK.out]
          go_wp2
          rw [HRL.out]
          go_ret2
          exact ⟨_, _, rfl, HF.out, HBw.out⟩
end Go.Proofs.Ytcjcgcgcloanpaa

namespace Go.Proofs.Ytcjcgcgcloanpaa
open Go.RowKit Go.KD
attribute [local go_sem] later_cell later_frozen
set_option maxHeartbeats 4000000 in
theorem l7Stuck_c (v : Value) (m : Mz) (E : List En) (w : World) (hE : E = srZ m) (hg : goodB m = true) (hm : MzAt w v m) : Calls Try.prog 102 #[v] w fun e w' => ∃ aw cw, e = .returned (.tuple #[.slice aw ((fstE E (stuckP m)).getD []).length cw, .bool (fstE E (stuckP m)).isSome]) ∧ IC w' aw ((fstE E (stuckP m)).getD []) ∧ Below w.heap.size w w' := by
  have hM := hm
  obtain ⟨⟨ad, cd, ak, ck, rfl, hd, hk'⟩, nd, nk⟩ := hM
  have HE := Lib.hid hE
  have HEO : Hid (SrOk m E) := by rw [hE]; exact srZ_ok m
  have hle : E.length ≤ 1024 := by rw [hE]; exact srZ_le hg
  have HG := Lib.hid hg
  clear hE hg
  all_goals
    go_enter Try.func102, Try.ntmps102
    obtain ⟨w1, hw1⟩ : ∃ w1, w1 = w.alloc (.cells #[.int .i64 m.size, .slice ad m.doors.length cd, .slice ak m.keys.length ck] 27) := ⟨_, rfl⟩
    have hb1 : Below w.heap.size w w1 := by rw [hw1]; exact (Below.refl _ _).alloc (Nat.le_refl _) _
    have HB1 := Lib.hid hb1
    have HC1 : Hid (w1.cell? ⟨w.heap.size, 0, none⟩ = some (.int .i64 m.size) ∧ w1.cell? ⟨w.heap.size, 1, none⟩ = some (.slice ad m.doors.length cd) ∧ w1.cell? ⟨w.heap.size, 2, none⟩ = some (.slice ak m.keys.length ck) ∧ w.heap.size < w1.heap.size) := by
      rw [hw1]; exact ⟨by simp [go_sem], by simp [go_sem], by simp [go_sem], by simp⟩
    go_wp2_with fail
    rw [← hw1]
    clear hw1 hb1
    refine (l7Search_c _ m _ _ _ [] 0 _ rfl (hm.later (HB1.out.alloc HB1.out.size _)) HG.out (ic_nil _ _) (opn_nil m)).mono ?_
    rintro e w2 ⟨g, c, gc, cc, vs, rfl, ⟨lo, xx, yy, hr2⟩, -, hb2⟩
    rw [srZ_def, ← HE.out] at hr2 ⊢
    have HR2 := Lib.hid hr2
    have HB2 : Hid (Below w1.heap.size w1 w2) := Below.trans ((Below.refl _ _).alloc (Nat.le_refl _) _) (hb2.mono (by simp))
    have hz2 := HB2.out.size
    obtain ⟨q0, q1, q2, hz⟩ := HC1.out
    have r0 := (HB2.out.cell (p := ⟨w.heap.size, 0, none⟩) hz).trans q0
    have r1 := (HB2.out.cell (p := ⟨w.heap.size, 1, none⟩) hz).trans q1
    have r2 := (HB2.out.cell (p := ⟨w.heap.size, 2, none⟩) hz).trans q2
    clear hr2 hb2 q0 q1 q2
    have HBS : Hid (Below (w2.heap.size + 1) (w2.alloc (.cells #[.slice (some ⟨g, 0, none⟩) E.length c, .slice (some ⟨gc, 0, none⟩) E.length cc] 73)) (w2.alloc (.cells #[.slice (some ⟨g, 0, none⟩) E.length c, .slice (some ⟨gc, 0, none⟩) E.length cc] 73))) := Below.refl _ _
    have HS : Hid (∀ W, Below (w2.heap.size + 1) (w2.alloc (.cells #[.slice (some ⟨g, 0, none⟩) E.length c, .slice (some ⟨gc, 0, none⟩) E.length cc] 73)) W → w2.heap.size < W.heap.size ∧ Below w.heap.size w W ∧ (W.cell? ⟨w.heap.size, 0, none⟩ = some (.int .i64 m.size) ∧ W.cell? ⟨w.heap.size, 1, none⟩ = some (.slice ad m.doors.length cd) ∧ W.cell? ⟨w.heap.size, 2, none⟩ = some (.slice ak m.keys.length ck) ∧ W.cell? ⟨w2.heap.size, 0, none⟩ = some (.slice (some ⟨g, 0, none⟩) E.length c)) ∧ RwS false W lo 25 3 g c xx yy vs (lisE E)) := by
      intro W hW
      have hb : Below w2.heap.size w2 W := ((Below.refl _ _).alloc (Nat.le_refl _) _).trans (hW.mono (by omega))
      refine ⟨by have := hW.size; simp at this; omega, below_then (below_then HB1.out HB2.out) hb, ⟨(hb.cell (p := ⟨w.heap.size, 0, none⟩) (by show w.heap.size < _; omega)).trans r0, (hb.cell (p := ⟨w.heap.size, 1, none⟩) (by show w.heap.size < _; omega)).trans r1, (hb.cell (p := ⟨w.heap.size, 2, none⟩) (by show w.heap.size < _; omega)).trans r2, (hW.cell (p := ⟨w2.heap.size, 0, none⟩) (by show w2.heap.size < _; omega)).trans (by simp [go_sem])⟩, HR2.out.later hb⟩
    clear r0 r1 r2 HR2
    go_wp2_with fail
    go_loopw [5] (fun i wr => ∃ k : Nat, i = .int .i64 k ∧ k ≤ E.length ∧ Hid (Below (w2.heap.size + 1) (w2.alloc (.cells #[.slice (some ⟨g, 0, none⟩) E.length c, .slice (some ⟨gc, 0, none⟩) E.length cc] 73)) wr) ∧ Hid (∀ j, j < k → stuckP m (E[j]!).2 = false)) (fun i _ => E.length - (intOf i).toNat)
    case atStart => exact ⟨0, rfl, Nat.zero_le _, HBS, fun j hj => by omega⟩
    case round =>
      clear HBS
      obtain ⟨wo, rfl⟩ : ∃ wo : World, wo = wr := ⟨_, rfl⟩
      obtain ⟨k, rfl, hk, HBO, HP⟩ := hrel
      obtain ⟨hzo, hbo, ⟨q0, q1, q2, q3⟩, hrow⟩ := HS.out wo HBO.out
      have HBW := Lib.hid hbo
      clear hbo
      by_cases hlt : k < E.length
      · have hkI : (k : Int) < (E.length : Int) := by omega
        obtain ⟨Lk, hLk⟩ : ∃ Lk, Lk = (E[k]!).1 := ⟨_, rfl⟩
        obtain ⟨Ok, hOk⟩ : ∃ Ok, Ok = (E[k]!).2 := ⟨_, rfl⟩
        have HOPk : Hid (Opn m Lk Ok) := by
          show Opn m Lk Ok
          rw [hLk, hOk]
          exact HEO.out.all E[k]! (by rw [getElem!_pos E k hlt]; exact List.getElem_mem hlt)
        have HLK := Lib.hid hLk
        have HOK2 := Lib.hid hOk
        have hLk30 := opn_len (good_ok HG.out) HOPk.out
        have he := hrow.each k (by simpa using hlt)
        rw [lisE_at hlt, ← hLk] at he
        obtain ⟨aK, cK, hvk, hik⟩ := he.ic
        have ek := hrow.cell (i := k) (by simpa using hlt)
        rw [hvk] at ek
        have hgz := hrow.gs
        have HIK := Lib.hid hik
        have hzl : w.heap.size < wo.heap.size := by omega
        have HS2 : Hid (∀ W, Below wo.heap.size wo W → W.cell? ⟨w.heap.size, 0, none⟩ = some (.int .i64 m.size) ∧ W.cell? ⟨w.heap.size, 1, none⟩ = some (.slice ad m.doors.length cd) ∧ W.cell? ⟨w.heap.size, 2, none⟩ = some (.slice ak m.keys.length ck) ∧ W.cell? ⟨w2.heap.size, 0, none⟩ = some (.slice (some ⟨g, 0, none⟩) E.length c) ∧ W.cell? ⟨g, k, none⟩ = some (.slice aK Lk.length cK)) := fun W hW => ⟨(hW.cell (p := ⟨w.heap.size, 0, none⟩) hzl).trans q0, (hW.cell (p := ⟨w.heap.size, 1, none⟩) hzl).trans q1, (hW.cell (p := ⟨w.heap.size, 2, none⟩) hzl).trans q2, (hW.cell (p := ⟨w2.heap.size, 0, none⟩) hzo).trans q3, (hW.cell (p := ⟨g, k, none⟩) hgz).trans ek⟩
        clear hLk hOk he hvk hik hrow
        go_upto_region 5 with fail
        go_cut [34] (fun s wx => s = .bool (stuckP m Ok) ∧ Hid (Below wo.heap.size wo wx))
        case first =>
          by_cases hww : wonB m Ok = true
          · have HSP : Hid (stuckP m Ok = false) := by show _ = _; rw [stuck_at (opn_ok (good_ok HG.out) HOPk.out), hww]; rfl
            refine wp_region_held_drew (S := (fun W => W.cell? ⟨w.heap.size, 0, none⟩ = some (.int .i64 m.size) ∧ W.cell? ⟨w.heap.size, 1, none⟩ = some (.slice ad m.doors.length cd) ∧ W.cell? ⟨w.heap.size, 2, none⟩ = some (.slice ak m.keys.length ck) ∧ W.cell? ⟨w2.heap.size, 0, none⟩ = some (.slice (some ⟨g, 0, none⟩) E.length c) ∧ W.cell? ⟨g, k, none⟩ = some (.slice aK Lk.length cK))) (by kernel_rfl) (HS2.out _ (Below.refl _ _).drew) (fun hHeld => ?_)
            refine wpAnyH_take (i := 0) (oi := Oper.mk _ _ _ _ _ _) (v := ?v0) rfl (by kernel_rfl) (by kernel_rfl) (by kernel_rfl) (fun _ _ _ h => h) (Or.inl ⟨by kernel_rfl, ?y0⟩) (by assumption) ?r0
            case y0 =>
              intro w hSw
              (try dsimp only at hSw)
              go_simp
              all_goals with_reducible rfl
            (try simp only [Act.put, List.setIfInBounds_toArray, List.set_cons_zero, List.set_cons_succ])
            refine wpAnyH_take (i := 1) (oi := Oper.mk _ _ _ _ _ _) (v := ?v1) rfl (by kernel_rfl) (by kernel_rfl) (by kernel_rfl) (fun _ _ _ h => h) (Or.inl ⟨by kernel_rfl, ?y1⟩) (by assumption) ?r1
            case y1 =>
              intro w hSw
              (try dsimp only at hSw)
              go_simp
              all_goals with_reducible rfl
            (try simp only [Act.put, List.setIfInBounds_toArray, List.set_cons_zero, List.set_cons_succ])
            refine wpAnyH_take (i := 2) (oi := Oper.mk _ _ _ _ _ _) (v := ?v2) rfl (by kernel_rfl) (by kernel_rfl) (by kernel_rfl) (fun _ _ _ h => h) (Or.inl ⟨by kernel_rfl, ?y2⟩) (by assumption) ?r2
            case y2 =>
              intro w hSw
              (try dsimp only at hSw)
              go_simp
              all_goals with_reducible rfl
            (try simp only [Act.put, List.setIfInBounds_toArray, List.set_cons_zero, List.set_cons_succ])
            refine wpAnyH_take (i := 3) (oi := Oper.mk _ _ _ _ _ _) (v := ?v3) rfl (by kernel_rfl) (by kernel_rfl) (by kernel_rfl) (fun _ _ _ h => h) (Or.inl ⟨by kernel_rfl, ?y3⟩) (by assumption) ?r3
            case y3 =>
              intro w hSw
              (try dsimp only at hSw)
              go_simp
              all_goals with_reducible rfl
            (try simp only [Act.put, List.setIfInBounds_toArray, List.set_cons_zero, List.set_cons_succ])
            refine wpAnyH_take (i := 4) (oi := Oper.mk _ _ _ _ _ _) (v := ?v4) rfl (by kernel_rfl) (by kernel_rfl) (by kernel_rfl) (fun _ _ _ h => h) (Or.inl ⟨by kernel_rfl, ?y4⟩) (by assumption) ?r4
            case y4 =>
              intro w hSw
              (try dsimp only at hSw)
              go_simp
              all_goals with_reducible rfl
            (try simp only [Act.put, List.setIfInBounds_toArray, List.set_cons_zero, List.set_cons_succ])
            refine wpAnyH_take (i := 5) (oi := Oper.mk _ _ _ _ _ _) (v := ?v5) rfl (by kernel_rfl) (by kernel_rfl) (by kernel_rfl) (fun _ _ _ h => h) (Or.inl ⟨by kernel_rfl, ?y5⟩) (by assumption) ?r5
            case y5 =>
              intro w hSw
              (try dsimp only at hSw)
              go_simp
              all_goals with_reducible rfl
            (try simp only [Act.put, List.setIfInBounds_toArray, List.set_cons_zero, List.set_cons_succ])
            refine wpAnyH_ready (rs := [6]) (by kernel_rfl) (by simp) ?_
            refine AllReadyH.cons rfl (fun K hK => ?_) AllReadyH.nil
            go_simp
            refine (l7Wins_c _ m Ok _ _ _ Lk _ rfl ((hm.later HBW.out).later (Below.refl _ _).drew) (good_ok HG.out) (HIK.out.later (Below.refl _ _).drew) (by omega) (opn_ok (good_ok HG.out) HOPk.out)).mono ?_
            rintro e w8 ⟨rfl, hb8⟩
            have HB8 : Hid (Below wo.heap.size wo w8) := (Below.refl _ _).drew.trans hb8
            clear hb8
            simp only [hww]
            refine hK.out _ _ (HS2.out _ HB8.out) (fun hHeld => ?_)
            (try simp only [Act.put, List.setIfInBounds_toArray, List.set_cons_zero, List.set_cons_succ])
            refine wpAnyH_take (i := 7) (oi := Oper.mk _ _ _ _ _ _) (v := ?v7) rfl (by kernel_rfl) (by kernel_rfl) (by kernel_rfl) (fun _ _ _ h => h) (Or.inl ⟨by kernel_rfl, ?y7⟩) (by assumption) ?r7
            case y7 =>
              intro w hSw
              (try dsimp only at hSw)
              go_simp
              all_goals with_reducible rfl
            (try simp only [Act.put, List.setIfInBounds_toArray, List.set_cons_zero, List.set_cons_succ])
            refine wpAnyH_take (i := 8) (oi := Oper.mk _ _ _ _ _ _) (v := ?v8) rfl (by kernel_rfl) (by kernel_rfl) (by kernel_rfl) (fun _ _ _ h => h) (Or.inl ⟨by kernel_rfl, ?y8⟩) (by assumption) ?r8
            case y8 =>
              intro w hSw
              (try dsimp only at hSw)
              go_simp
              all_goals with_reducible rfl
            (try simp only [Act.put, List.setIfInBounds_toArray, List.set_cons_zero, List.set_cons_succ])
            refine wpAnyH_take (i := 9) (oi := Oper.mk _ _ _ _ _ _) (v := undef) rfl (by kernel_rfl) (by kernel_rfl) (by kernel_rfl) (fun _ _ _ h => h) (Or.inr ⟨by kernel_rfl, rfl⟩) (by assumption) ?_
            (try simp only [Act.put, List.setIfInBounds_toArray, List.set_cons_zero, List.set_cons_succ])
            refine wpAnyH_take (i := 10) (oi := Oper.mk _ _ _ _ _ _) (v := undef) rfl (by kernel_rfl) (by kernel_rfl) (by kernel_rfl) (fun _ _ _ h => h) (Or.inr ⟨by kernel_rfl, rfl⟩) (by assumption) ?_
            (try simp only [Act.put, List.setIfInBounds_toArray, List.set_cons_zero, List.set_cons_succ])
            refine wpAnyH_take (i := 11) (oi := Oper.mk _ _ _ _ _ _) (v := undef) rfl (by kernel_rfl) (by kernel_rfl) (by kernel_rfl) (fun _ _ _ h => h) (Or.inr ⟨by kernel_rfl, rfl⟩) (by assumption) ?_
            (try simp only [Act.put, List.setIfInBounds_toArray, List.set_cons_zero, List.set_cons_succ])
            refine wpAnyH_take (i := 12) (oi := Oper.mk _ _ _ _ _ _) (v := undef) rfl (by kernel_rfl) (by kernel_rfl) (by kernel_rfl) (fun _ _ _ h => h) (Or.inr ⟨by kernel_rfl, rfl⟩) (by assumption) ?_
            (try simp only [Act.put, List.setIfInBounds_toArray, List.set_cons_zero, List.set_cons_succ])
            refine wpAnyH_take (i := 13) (oi := Oper.mk _ _ _ _ _ _) (v := undef) rfl (by kernel_rfl) (by kernel_rfl) (by kernel_rfl) (fun _ _ _ h => h) (Or.inr ⟨by kernel_rfl, rfl⟩) (by assumption) ?_
            (try simp only [Act.put, List.setIfInBounds_toArray, List.set_cons_zero, List.set_cons_succ])
            refine wpAnyH_take (i := 14) (oi := Oper.mk _ _ _ _ _ _) (v := undef) rfl (by kernel_rfl) (by kernel_rfl) (by kernel_rfl) (fun _ _ _ h => h) (Or.inr ⟨by kernel_rfl, rfl⟩) (by assumption) ?_
            (try simp only [Act.put, List.setIfInBounds_toArray, List.set_cons_zero, List.set_cons_succ])
            refine wpAnyH_take (i := 15) (oi := Oper.mk _ _ _ _ _ _) (v := undef) rfl (by kernel_rfl) (by kernel_rfl) (by kernel_rfl) (fun _ _ _ h => h) (Or.inr ⟨by kernel_rfl, rfl⟩) (by assumption) ?_
            (try simp only [Act.put, List.setIfInBounds_toArray, List.set_cons_zero, List.set_cons_succ])
            refine wpAnyH_take (i := 16) (oi := Oper.mk _ _ _ _ _ _) (v := undef) rfl (by kernel_rfl) (by kernel_rfl) (by kernel_rfl) (fun _ _ _ h => h) (Or.inr ⟨by kernel_rfl, rfl⟩) (by assumption) ?_
            (try simp only [Act.put, List.setIfInBounds_toArray, List.set_cons_zero, List.set_cons_succ])
            refine wpAnyH_take (i := 17) (oi := Oper.mk _ _ _ _ _ _) (v := undef) rfl (by kernel_rfl) (by kernel_rfl) (by kernel_rfl) (fun _ _ _ h => h) (Or.inr ⟨by kernel_rfl, rfl⟩) (by assumption) ?_
            (try simp only [Act.put, List.setIfInBounds_toArray, List.set_cons_zero, List.set_cons_succ])
            refine wpAnyH_take (i := 18) (oi := Oper.mk _ _ _ _ _ _) (v := ?v18) rfl (by kernel_rfl) (by kernel_rfl) (by kernel_rfl) (fun _ _ _ h => h) (Or.inl ⟨by kernel_rfl, ?y18⟩) (by assumption) ?r18
            case y18 =>
              intro w hSw
              (try dsimp only at hSw)
              go_simp
              all_goals with_reducible rfl
            (try simp only [Act.put, List.setIfInBounds_toArray, List.set_cons_zero, List.set_cons_succ])
            refine wpAnyH_done (by kernel_rfl) ?_ _
            all_goals
              go_wp2_with fail
              go_meet
              case rel => exact ⟨by rw [HSP.out], HB8⟩
          · have hww : wonB m Ok = false := by simpa using hww
            obtain ⟨nn, hnn⟩ : ∃ nn, nn = (nextL m Ok Lk).length := ⟨_, rfl⟩
            have HSP : Hid (stuckP m Ok = decide (nn = 0)) := by show _ = _; rw [stuck_at (opn_ok (good_ok HG.out) HOPk.out), hww, hnn]; rfl
            obtain ⟨bb, hbb⟩ : ∃ bb, bb = decide (nn = 0) := ⟨_, rfl⟩
            have hbI : ((nn : Int) == 0) = bb := by rw [hbb]; by_cases h : nn = 0 <;> simp [h]
            rw [← hbb] at HSP
            have HNN := Lib.hid hnn
            have HBB := Lib.hid hbb
            clear hnn
            go_region_held3 (fun W => W.cell? ⟨w.heap.size, 0, none⟩ = some (.int .i64 m.size) ∧ W.cell? ⟨w.heap.size, 1, none⟩ = some (.slice ad m.doors.length cd) ∧ W.cell? ⟨w.heap.size, 2, none⟩ = some (.slice ak m.keys.length ck) ∧ W.cell? ⟨w2.heap.size, 0, none⟩ = some (.slice (some ⟨g, 0, none⟩) E.length c) ∧ W.cell? ⟨g, k, none⟩ = some (.slice aK Lk.length cK))
              (exact HS2.out _ (by repeat (first | exact Below.refl _ _ | exact HB9.out | exact HB8.out | apply Below.drew | apply below_drewN | (refine Below.setCell ?_ (by first | omega | (simp; done) | (simp; omega) | (dsimp only; omega)) _) | (refine Below.alloc ?_ (by first | omega | (simp; done) | (simp; omega) | (dsimp only; omega)) _))))
              (first
                | (go_at_call 86; refine (l7Wins_c _ m Ok _ _ _ Lk _ rfl ((hm.later HBW.out).later (by repeat (first | exact Below.refl _ _ | apply Below.drew | apply below_drewN | (refine Below.setCell ?_ (by first | omega | (simp; done) | (simp; omega) | (dsimp only; omega)) _) | (refine Below.alloc ?_ (by first | omega | (simp; done) | (simp; omega) | (dsimp only; omega)) _)))) (good_ok HG.out) (HIK.out.later (by repeat (first | exact Below.refl _ _ | apply Below.drew | apply below_drewN | (refine Below.setCell ?_ (by first | omega | (simp; done) | (simp; omega) | (dsimp only; omega)) _) | (refine Below.alloc ?_ (by first | omega | (simp; done) | (simp; omega) | (dsimp only; omega)) _)))) (by omega) (opn_ok (good_ok HG.out) HOPk.out)).mono ?_; rintro e w8 ⟨rfl, hb8⟩; have HB8 : Hid (Below wo.heap.size wo w8) := (Below.refl _ _).drew.trans hb8; clear hb8; simp only [hww])
                | (go_at_call 84; refine (l7NextN_c _ m Ok _ _ _ Lk _ rfl ((hm.later HBW.out).later (by repeat (first | exact Below.refl _ _ | exact HB8.out | apply Below.drew | apply below_drewN | (refine Below.setCell ?_ (by first | omega | (simp; done) | (simp; omega) | (dsimp only; omega)) _) | (refine Below.alloc ?_ (by first | omega | (simp; done) | (simp; omega) | (dsimp only; omega)) _)))) (good_ok HG.out) (HIK.out.later (by repeat (first | exact Below.refl _ _ | exact HB8.out | apply Below.drew | apply below_drewN | (refine Below.setCell ?_ (by first | omega | (simp; done) | (simp; omega) | (dsimp only; omega)) _) | (refine Below.alloc ?_ (by first | omega | (simp; done) | (simp; omega) | (dsimp only; omega)) _)))) (by omega) (opn_ok (good_ok HG.out) HOPk.out)).mono ?_; rintro e w9 ⟨u9, rfl, ho9, hb9⟩; obtain ⟨a9, c9, rfl⟩ := own_slice ho9; have HB9 : Hid (Below wo.heap.size wo w9) := below_then HB8.out hb9; clear ho9 hb9; rw [← HNN.out]))
            all_goals
              go_wp2_with fail
              go_meet
              case rel => exact ⟨by rw [HSP.out]; first | rfl | (rw [HBB.out]), HB9⟩
        case rest =>
          obtain ⟨rfl, HBC⟩ := hcut
          obtain ⟨t0, t1, t2, t3, t4⟩ := HS2.out _ HBC.out
          clear q0 q1 q2 q3 ek HS2
          cases hw : stuckP m Ok
          case false =>
            have HPK : Hid (∀ j, j < k + 1 → stuckP m (E[j]!).2 = false) := by
              intro j hj
              rcases Nat.lt_or_ge j k with h | h
              · exact HP.out j h
              · obtain rfl : j = k := by omega
                rw [← HOK2.out]; exact hw
            clear hw
            go_wp2
            go_roundw
            case rel => exact ⟨k + 1, by go_num, by omega, HBO.out.trans (HBC.out.mono (by omega)), HPK⟩
            case measure => simp [intOf]; omega
          case true =>
            have HF : Hid (fstE E (stuckP m) = some Lk) := by
              show _ = _
              rw [fstE_at hlt HP.out (by rw [← HOK2.out]; exact hw), ← HLK.out]
            clear hw
            have HIF := Lib.hid (HIK.out.later HBC.out)
            go_wp2
            go_ret2
            rw [HF.out]
            exact ⟨_, _, rfl, HIF.out, below_then HBW.out HBC.out⟩
      · obtain rfl : k = E.length := by omega
        have HF : Hid (fstE E (stuckP m) = none) := fstE_none HP.out
        have HBF := Lib.hid (HBW.out.alloc HBW.out.size (.cells #[] 3))
        go_wp2
        go_ret2
        rw [HF.out]
        exact ⟨_, _, rfl, ic_nil _ _, HBF.out⟩
end Go.Proofs.Ytcjcgcgcloanpaa

namespace Go.Proofs.Ytcjcgcgcloanpaa
open Go.RowKit Go.KD
attribute [local go_sem] later_cell later_frozen
theorem specFirstStuck_c (v : Value) (m : Mz) (w : World) (R : List Int) (b : Bool) (hp : pFirstStuck m = (R, b)) (hm : MzAt w v m) : Calls Try.prog 33 #[v] w fun e w' => ∃ aw cw, e = .returned (.tuple #[.slice aw R.length cw, .bool b]) ∧ IC w' aw R ∧ Below w.heap.size w w' := by
  have hM := hm
  obtain ⟨⟨ad, cd, ak, ck, rfl, hd, hk'⟩, nd, nk⟩ := hM
  cases b1 : goodB m
  · simp only [pFirstStuck, b1] at hp
    cases hp
    go_enter Try.func33, Try.ntmps33
    go_wp2_with (go_at_call 74; refine (l7Good_c _ m _ (hm.later (by (repeat (first | exact Below.refl _ _ | apply Below.drew | apply below_drewN | (refine Below.setCell ?_ (by first | omega | (simp; done) | (simp; omega) | (dsimp only; omega)) _) | (refine Below.alloc ?_ (by first | omega | (simp; done) | (simp; omega) | (dsimp only; omega)) _)))))).mono ?_; rintro e w1 ⟨rfl, hb1⟩; have HB1 : Hid (Below w.heap.size w w1) := below_then (by (repeat (first | exact Below.refl _ _ | apply Below.drew | apply below_drewN | (refine Below.setCell ?_ (by first | omega | (simp; done) | (simp; omega) | (dsimp only; omega)) _) | (refine Below.alloc ?_ (by first | omega | (simp; done) | (simp; omega) | (dsimp only; omega)) _)))) hb1)
    have HBF := Lib.hid (HB1.out.alloc HB1.out.size (.cells #[] 3))
    go_ret2
    exact ⟨_, _, rfl, ic_nil _ _, HBF.out⟩
  · simp only [pFirstStuck, b1, if_true, Prod.mk.injEq] at hp
    obtain ⟨hR, hb⟩ := hp
    obtain ⟨E, hE⟩ : ∃ E, E = srZ m := ⟨_, rfl⟩
    rw [← hE] at hR hb
    have HR := Lib.hid hR
    have HB := Lib.hid hb
    have HE := Lib.hid hE
    have HG := Lib.hid b1
    clear hR hb hE
    go_enter Try.func33, Try.ntmps33
    go_wp2_with (go_at_call 74; refine (l7Good_c _ m _ (hm.later (by (repeat (first | exact Below.refl _ _ | apply Below.drew | apply below_drewN | (refine Below.setCell ?_ (by first | omega | (simp; done) | (simp; omega) | (dsimp only; omega)) _) | (refine Below.alloc ?_ (by first | omega | (simp; done) | (simp; omega) | (dsimp only; omega)) _)))))).mono ?_; rintro e w1 ⟨rfl, hb1⟩; obtain ⟨hc1, hf1, hz1⟩ := bcell3 hb1; have HB1 : Hid (Below w.heap.size w w1) := below_then (by (repeat (first | exact Below.refl _ _ | apply Below.drew | apply below_drewN | (refine Below.setCell ?_ (by first | omega | (simp; done) | (simp; omega) | (dsimp only; omega)) _) | (refine Below.alloc ?_ (by first | omega | (simp; done) | (simp; omega) | (dsimp only; omega)) _)))) hb1; simp only [b1])
    refine (l7Stuck_c _ m E _ HE.out HG.out (hm.later HB1.out)).mono ?_
    rintro e w2 ⟨aw, cw, rfl, hi2, hb2⟩
    rw [HR.out, HB.out] at *
    have HI2 := Lib.hid hi2
    clear hi2
    go_wp2
    go_ret2
    exact ⟨_, _, rfl, HI2.out, below_then HB1.out hb2⟩
theorem specIsSafe_c (v : Value) (m : Mz) (w : World) (hm : MzAt w v m) : Calls Try.prog 35 #[v] w fun e w' => e = .returned (.tuple #[.bool (pIsSafe m).1, .bool (pIsSafe m).2]) ∧ Below w.heap.size w w' := by
  have hM := hm
  obtain ⟨⟨ad, cd, ak, ck, rfl, hd, hk'⟩, nd, nk⟩ := hM
  cases b1 : goodB m
  · have H : Hid (pIsSafe m = (false, false)) := by show _ = _; simp [pIsSafe, b1]
    go_enter Try.func35, Try.ntmps35
    go_wp2_with (go_at_call 74; refine (l7Good_c _ m _ (hm.later (by (repeat (first | exact Below.refl _ _ | apply Below.drew | apply below_drewN | (refine Below.setCell ?_ (by first | omega | (simp; done) | (simp; omega) | (dsimp only; omega)) _) | (refine Below.alloc ?_ (by first | omega | (simp; done) | (simp; omega) | (dsimp only; omega)) _)))))).mono ?_; rintro e w1 ⟨rfl, hb1⟩; have HB1 : Hid (Below w.heap.size w w1) := below_then (by (repeat (first | exact Below.refl _ _ | apply Below.drew | apply below_drewN | (refine Below.setCell ?_ (by first | omega | (simp; done) | (simp; omega) | (dsimp only; omega)) _) | (refine Below.alloc ?_ (by first | omega | (simp; done) | (simp; omega) | (dsimp only; omega)) _)))) hb1; simp only [b1])
    go_ret2
    exact ⟨by rw [H.out]; rfl, HB1.out⟩
  · obtain ⟨E, hE⟩ : ∃ E, E = srZ m := ⟨_, rfl⟩
    obtain ⟨b, hb⟩ : ∃ b, b = (fstE E (stuckP m)).isSome := ⟨_, rfl⟩
    have H : Hid (pIsSafe m = (!b, true)) := by show _ = _; rw [hb, hE]; simp [pIsSafe, b1]
    have HE := Lib.hid hE
    have HB := Lib.hid hb
    have HG := Lib.hid b1
    clear hb hE
    go_enter Try.func35, Try.ntmps35
    go_wp2_with (go_at_call 74; refine (l7Good_c _ m _ (hm.later (by (repeat (first | exact Below.refl _ _ | apply Below.drew | apply below_drewN | (refine Below.setCell ?_ (by first | omega | (simp; done) | (simp; omega) | (dsimp only; omega)) _) | (refine Below.alloc ?_ (by first | omega | (simp; done) | (simp; omega) | (dsimp only; omega)) _)))))).mono ?_; rintro e w1 ⟨rfl, hb1⟩; obtain ⟨hc1, hf1, hz1⟩ := bcell3 hb1; have HB1 : Hid (Below w.heap.size w w1) := below_then (by (repeat (first | exact Below.refl _ _ | apply Below.drew | apply below_drewN | (refine Below.setCell ?_ (by first | omega | (simp; done) | (simp; omega) | (dsimp only; omega)) _) | (refine Below.alloc ?_ (by first | omega | (simp; done) | (simp; omega) | (dsimp only; omega)) _)))) hb1; simp only [b1])
    refine (l7Stuck_c _ m E _ HE.out HG.out (hm.later HB1.out)).mono ?_
    rintro e w2 ⟨aw, cw, rfl, -, hb2⟩
    rw [← HB.out]
    go_wp2
    go_ret2
    exact ⟨by rw [H.out]; rfl, below_then HB1.out hb2⟩
end Go.Proofs.Ytcjcgcgcloanpaa

namespace Go.KD
open Go.RowKit
theorem opn_un {m : Mz} {L : List Int} {x : Int} {O : Nat} (h : Opn m (L ++ [x]) O) : ∃ O', Opn m L O' ∧ x ∈ nextL m O' L ∧ O = setN O' x := by
  unfold Opn at h
  rw [List.length_append, List.length_singleton] at h
  have h1 : opK m (L ++ [x]) L.length = opK m L L.length := opK_app x _ (Nat.le_refl _)
  cases h2 : opK m L L.length with
  | none =>
    rw [h2] at h1
    have := opK_none h1 1
    rw [this] at h; cases h
  | some O' =>
    rw [h2] at h1
    rw [opK_step h1] at h
    have e1 : (L ++ [x]).take L.length = L := by simp
    have e2 : (L ++ [x])[L.length]! = x := by simp
    rw [e1, e2] at h
    split at h
    · rename_i hh
      refine ⟨O', h2, hasI_iff.1 hh, ?_⟩
      cases h; rfl
    · cases h
theorem opn_card {m : Mz} (ok : MzOk m) {L : List Int} {O : Nat} (h : Opn m L O) : (mem O).length = L.length := by
  have hop := opn_ok ok h
  have h1 := nodup_le hop.nd fun x hx => (hop.mem x).1 hx
  have h2 := nodup_le (mem_nodupN O) fun x hx => (hop.mem x).2 hx
  omega
theorem opn_take {m : Mz} {L : List Int} {O : Nat} (h : Opn m L O) : ∀ k, k ≤ L.length → ∃ O', Opn m (L.take (L.length - k)) O'
  | 0, _ => ⟨O, by simpa using h⟩
  | k + 1, hk => by
    obtain ⟨O', h'⟩ := opn_take h k (by omega)
    have e : L.take (L.length - k) = L.take (L.length - (k + 1)) ++ [L[L.length - (k + 1)]!] := by
      rw [← take_snoc (by omega)]
      congr 1; omega
    rw [e] at h'
    obtain ⟨O2, h2, -, -⟩ := opn_un h'
    exact ⟨O2, h2⟩
theorem opn_pre {m : Mz} {L : List Int} {O k : Nat} (h : Opn m L O) (hk : k ≤ L.length) : ∃ O', Opn m (L.take k) O' := by
  have := opn_take h (L.length - k) (by omega)
  rwa [show L.length - (L.length - k) = k from by omega] at this
theorem opn_at {m : Mz} {L : List Int} {O O' k : Nat} (h : Opn m L O) (hk : k < L.length) (h' : Opn m (L.take k) O') : L[k]! ∈ nextL m O' (L.take k) ∧ Opn m (L.take (k + 1)) (setN O' L[k]!) := by
  obtain ⟨O1, h1⟩ := opn_pre h (k := k + 1) (by omega)
  have h3 := h1
  rw [take_snoc hk] at h3
  obtain ⟨O2, h2, hx, rfl⟩ := opn_un h3
  have : O2 = O' := by
    have e1 := opn_N h2
    have e2 := opn_N h'
    rw [← e1, ← e2]
  subst this
  exact ⟨hx, h1⟩
/-- What a list of entries must be for the words below. -/
structure Zok (m : Mz) (Z : List En) : Prop where
  ok : SrOk m Z
  zero : ∃ e ∈ Z, e.2 = 0
  cl : ∀ e ∈ Z, ∀ k ∈ nextL m e.2 e.1, ∃ e' ∈ Z, e'.2 = setN e.2 k
theorem srZ_zok {m : Mz} (hg : goodB m = true) : Zok m (srZ m) :=
  ⟨srZ_ok m, ⟨([], 0), (srE_preF m [(([], 0) : En)] (i := 0) (Nat.zero_le _)).subset (by show _ ∈ [_]; simp), rfl⟩, fun e he k hk => srF_closed hg (sr_one m (opn_nil m)) he hk⟩
theorem Zok.grow {m : Mz} (hg : goodB m = true) {Z : List En} (h : Zok m Z) (hs : ∀ e ∈ Z, nextL m e.2 e.1 ≠ []) : ∀ n, ∃ e ∈ Z, e.1.length = n
  | 0 => by
    obtain ⟨e, he, h0⟩ := h.zero
    have := opn_card (good_ok hg) (h.ok.all e he)
    rw [h0] at this
    exact ⟨e, he, by rw [← this]; decide⟩
  | n + 1 => by
    obtain ⟨e, he, hn⟩ := Zok.grow hg h hs n
    cases hx : nextL m e.2 e.1 with
    | nil => exact absurd hx (hs e he)
    | cons k t =>
      have hk : k ∈ nextL m e.2 e.1 := by rw [hx]; simp
      obtain ⟨e', he', h'⟩ := h.cl e he k hk
      have h1 := opn_card (good_ok hg) (h.ok.all e' he')
      have h2 := opn_card (good_ok hg) (opn_next (h.ok.all e he) hk)
      refine ⟨e', he', ?_⟩
      rw [← h1, h', h2]; simp; omega
theorem find_some {Z : List En} {p : Nat → Bool} {L : List Int} (h : fstE Z p = some L) : ∃ i, i < Z.length ∧ (Z[i]!).1 = L ∧ p (Z[i]!).2 = true ∧ ∀ j, j < i → p (Z[j]!).2 = false := by
  unfold fstE at h
  cases hf : Z.find? (fun e => p e.2) with
  | none => rw [hf] at h; cases h
  | some e =>
    rw [hf] at h
    have hL : e.1 = L := by simpa using h
    obtain ⟨hp, i, hi, he, hj⟩ := List.find?_eq_some_iff_getElem.1 hf
    refine ⟨i, hi, by rw [getElem!_pos Z i hi, he]; exact hL, by rw [getElem!_pos Z i hi, he]; exact hp, fun j hji => ?_⟩
    have := hj j hji
    rw [getElem!_pos Z j (by omega)]
    simpa using this
theorem find_none {Z : List En} {p : Nat → Bool} (h : fstE Z p = none) : ∀ e ∈ Z, p e.2 = false := by
  unfold fstE at h
  rw [Option.map_eq_none_iff, List.find?_eq_none] at h
  intro e he
  simpa using h e he
theorem stuck_of {m : Mz} (hg : goodB m = true) {L : List Int} {O : Nat} (h : Opn m L O) (hs : stuckP m O = true) : wonB m O = false ∧ nextL m O L = [] := by
  rw [stuck_at (opn_ok (good_ok hg) h)] at hs
  simp only [Bool.and_eq_true, Bool.not_eq_true', decide_eq_true_eq] at hs
  exact ⟨hs.1, List.eq_nil_of_length_eq_zero hs.2⟩
theorem safe_won {m : Mz} (hg : goodB m = true) (h1 : fstE (srZ m) (stuckP m) = none) : fstE (srZ m) (wonB m) ≠ none := by
  intro h2
  have hz := srZ_zok hg
  obtain ⟨Z, hZ⟩ : ∃ Z, Z = srZ m := ⟨_, rfl⟩
  rw [← hZ] at h1 h2 hz
  clear hZ
  obtain ⟨e, he, hn⟩ := hz.grow hg (fun e he hx => by
    have a := find_none h1 e he
    have b := find_none h2 e he
    rw [stuck_at (opn_ok (good_ok hg) (hz.ok.all e he)), b, hx] at a
    simp at a) 11
  have := opn_lks (good_ok hg) (hz.ok.all e he)
  have := good_lks hg
  omega
theorem SrOk.le2 {m : Mz} {E : List En} (h : SrOk m E) (hg : goodB m = true) : E.length ≤ 2 ^ (locksI m).length := by
  have ok := good_ok hg
  have h1 : ((E.map (·.2)).map (cdO m)).length ≤ 2 ^ (locksI m).length := by
    refine nodup_lt ?_ ?_
    · rw [List.Nodup, List.pairwise_map]
      refine List.Pairwise.imp_of_mem ?_ h.nd
      intro a b ha hb hab he
      obtain ⟨ea, hea, rfl⟩ := List.mem_map.1 ha
      obtain ⟨eb, heb, rfl⟩ := List.mem_map.1 hb
      exact hab (cdO_inj (opn_bits ok (h.all ea hea)) (opn_bits ok (h.all eb heb)) he)
    · intro x hx
      obtain ⟨O, _, rfl⟩ := List.mem_map.1 hx
      exact cdK_lt (locksI m) (fun x => O.testBit x.toNat) (locksI m).length
  simpa using h1
theorem Zok.pos {m : Mz} {Z : List En} (h : Zok m Z) : 1 ≤ Z.length := by
  obtain ⟨e, he, -⟩ := h.zero
  exact List.length_pos_of_mem he
/-- Each opening has an entry. -/
theorem Zok.has {m : Mz} (hg : goodB m = true) {Z : List En} (h : Zok m Z) : ∀ (n : Nat) (L : List Int) (O : Nat), L.length = n → Opn m L O → ∃ e ∈ Z, e.2 = O
  | 0, L, O, hn, hO => by
    obtain rfl := List.eq_nil_of_length_eq_zero hn
    obtain ⟨e, he, h0⟩ := h.zero
    have : (0 : Nat) = O := by simpa [Opn, opK] using hO
    exact ⟨e, he, by rw [h0]; exact this⟩
  | n + 1, L, O, hn, hO => by
    obtain ⟨L', x, rfl⟩ : ∃ L' x, L = L' ++ [x] := by
      rcases List.eq_nil_or_concat L with rfl | ⟨L', x, rfl⟩
      · simp at hn
      · exact ⟨L', x, by simp⟩
    obtain ⟨O', h', hx, rfl⟩ := opn_un hO
    obtain ⟨e, he, rfl⟩ := Zok.has hg h n L' O' (by simpa using hn) h'
    have h1 := nextL_perm (opn_ok (good_ok hg) h')
    have h2 := nextL_perm (opn_ok (good_ok hg) (h.ok.all e he))
    exact h.cl e he x (by rw [← h2, h1]; exact hx)
theorem locks_nodup (m : Mz) : (locksI m).Nodup := by
  unfold locksI locksK
  rw [List.Nodup, List.pairwise_map]
  exact (List.Pairwise.filter _ List.nodup_range).imp fun h he => h (by omega)
theorem all_many {m : Mz} (hg : goodB m = true) (h : (fstE (srZ m) (fun O => decide ((O : Int) = (allZ m : Int)))).isSome = true) : (locksI m).length + 1 ≤ (srZ m).length := by
  have hz := srZ_zok hg
  obtain ⟨Z, hZ⟩ : ∃ Z, Z = srZ m := ⟨_, rfl⟩
  rw [← hZ] at h hz ⊢
  clear hZ
  obtain ⟨L, hL⟩ := Option.isSome_iff_exists.1 h
  obtain ⟨i, hi, -, hp, -⟩ := find_some hL
  have hmem : Z[i]! ∈ Z := by rw [getElem!_pos Z i hi]; exact List.getElem_mem hi
  obtain ⟨e, he⟩ : ∃ e, e = Z[i]! := ⟨_, rfl⟩
  rw [← he] at hp hmem
  have hO : e.2 = allZ m := by have := of_decide_eq_true hp; omega
  have hop := hz.ok.all e hmem
  have hnd := (good_ok hg).nd
  have hlen : (locksI m).length ≤ e.1.length := nodup_le (locks_nodup m) fun x hx => by
    rw [(opn_ok (good_ok hg) hop).mem, in_mem]
    have h0 := locks_pos hx
    have hx' : ((x.toNat : Nat) : Int) ∈ locksI m := by rw [Int.toNat_of_nonneg h0]; exact hx
    have hlt := (lock_mem.1 hx').1
    exact ⟨x.toNat, by omega, by rw [hO]; exact allZ_bit _ |>.2 hx', by omega⟩
  have hle := opn_lks (good_ok hg) hop
  have h1 : ((List.range ((locksI m).length + 1)).map fun (j : Nat) => (j : Int)).length ≤ (Z.map fun e => ((mem e.2).length : Int)).length := by
    refine nodup_le ?_ fun x hx => ?_
    · rw [List.Nodup, List.pairwise_map]
      exact List.nodup_range.imp fun h he => h (by omega)
    · obtain ⟨j, hj, rfl⟩ := List.mem_map.1 hx
      have hj := List.mem_range.1 hj
      obtain ⟨O', h'⟩ := opn_pre hop (k := j) (by omega)
      obtain ⟨e', he', hee⟩ := hz.has hg _ _ _ rfl h'
      have hc := opn_card (good_ok hg) h'
      rw [List.length_take, Nat.min_eq_left (by omega)] at hc
      exact List.mem_map.2 ⟨e', he', by rw [hee, hc]⟩
  simpa using h1
/-- Each entry's list grows out of an earlier entry's. -/
def ParE (E : List En) : Prop := ∀ i, i < E.length → (E[i]!).1 = [] ∨ ∃ j k, j < i ∧ (E[i]!).1 = (E[j]!).1 ++ [k]
theorem par_add {E E0 : List En} {i0 : Nat} (hp : E0 <+: E) (hi : i0 < E0.length) (h : ParE E) (k : Int) : ParE (addE (E0[i0]!).1 (E0[i0]!).2 E k) := by
  have hle := hp.length_le
  have hat := pre_at hp hi
  unfold addE
  split
  · exact h
  · intro i hil
    rw [List.length_append, List.length_singleton] at hil
    rcases Nat.lt_or_ge i E.length with hlt | hge
    · have e1 := pre_at (List.prefix_append E [(((E0[i0]!).1 ++ [k], setN (E0[i0]!).2 k) : En)]) hlt
      rw [e1]
      rcases h i hlt with h | ⟨j, x, hj, h⟩
      · exact .inl h
      · refine .inr ⟨j, x, hj, ?_⟩
        rw [pre_at (List.prefix_append E _) (by omega)]; exact h
    · obtain rfl : i = E.length := by omega
      refine .inr ⟨i0, k, by omega, ?_⟩
      have e2 := pre_at (List.prefix_append E [(((E0[i0]!).1 ++ [k], setN (E0[i0]!).2 k) : En)]) (i := i0) (by omega)
      rw [e2, hat, getElem!_pos (E ++ _) E.length (by simp)]
      simp
theorem par_exp {m : Mz} {E : List En} {i : Nat} (hi : i < E.length) (h : ParE E) : ∀ j, j ≤ (nextL m (E[i]!).2 (E[i]!).1).length → ParE (expJ m E i j)
  | 0, _ => by simpa [expJ] using h
  | j + 1, hj => by
    rw [expJ_step m E i (by omega)]
    exact par_add (expJ_pre m E i j) hi (par_exp hi h j (by omega)) _
theorem par_srE {m : Mz} {E0 : List En} (h : ParE E0) : ∀ i, ParE (srE m E0 i)
  | 0 => h
  | i + 1 => by
    show ParE (if i < (srE m E0 i).length then expE m (srE m E0 i) i else srE m E0 i)
    split
    · rename_i hi; exact par_exp hi (par_srE h i) _ (Nat.le_refl _)
    · exact par_srE h i
theorem par_srZ (m : Mz) : ParE (srZ m) := by
  have h0 : ParE [(([], 0) : En)] := fun i hi => by
    obtain rfl : i = 0 := by simpa using hi
    exact .inl rfl
  have h1 := fun n => par_srE (m := m) h0 n
  unfold srZ srF
  exact h1 _
theorem par_take {E : List En} (h : ParE E) : ∀ (n i : Nat), i ≤ n → i < E.length → ∀ k, k < (E[i]!).1.length → ∃ j, j < i ∧ (E[j]!).1 = (E[i]!).1.take k
  | 0, i, hn, hi, k, hk => by
    obtain rfl : i = 0 := by omega
    rcases h 0 hi with h | ⟨j, x, hj, _⟩
    · rw [h] at hk; simp at hk
    · omega
  | n + 1, i, hn, hi, k, hk => by
    rcases h i hi with h' | ⟨j, x, hj, h'⟩
    · rw [h'] at hk; simp at hk
    · rw [h', List.length_append, List.length_singleton] at hk
      rcases Nat.lt_or_ge k (E[j]!).1.length with hlt | hge
      · obtain ⟨j', hj', he⟩ := par_take h n j (by omega) (by omega) k hlt
        exact ⟨j', by omega, by rw [he, h', List.take_append_of_le_length (by omega)]⟩
      · exact ⟨j, hj, by rw [h', List.take_append_of_le_length (by omega), List.take_of_length_le (by omega)]⟩
theorem still_pre {m : Mz} (hg : goodB m = true) {L : List Int} {O : Nat} (h : Opn m L O) (hw : wonB m O = true) : ∀ (d k : Nat), k + d = L.length → ∀ O', Opn m (L.take k) O' → stillF m O' = true
  | 0, k, hk, O', h' => by
    have : O' = O := by
      rw [List.take_of_length_le (by omega)] at h'
      rw [← opn_N h', opn_N h]
    rw [this]; exact still_won hw
  | d + 1, k, hk, O', h' => by
    obtain ⟨hx, h1⟩ := opn_at h (k := k) (by omega) h'
    rw [still_eq hg h', Bool.or_eq_true, List.any_eq_true]
    exact .inr ⟨_, hx, still_pre hg h hw d (k + 1) (by omega) _ h1⟩
theorem won_first {m : Mz} (hg : goodB m = true) {L : List Int} (h : fstE (srZ m) (wonB m) = some L) : winB m 0 = true ∧ ∃ O, Opn m L O ∧ wonB m O = true ∧ ∀ k, k < L.length → ∃ O', Opn m (L.take k) O' ∧ wonB m O' = false ∧ L[k]! ∈ hopeL m O' (L.take k) := by
  have hz := srZ_zok hg
  have hpar := par_srZ m
  obtain ⟨Z, hZ⟩ : ∃ Z, Z = srZ m := ⟨_, rfl⟩
  rw [← hZ] at h hz hpar
  clear hZ
  obtain ⟨i, hi, rfl, hp, hj⟩ := find_some h
  have hmem : ∀ i, i < Z.length → Z[i]! ∈ Z := fun i hi => by rw [getElem!_pos Z i hi]; exact List.getElem_mem hi
  have hop := hz.ok.all _ (hmem i hi)
  have ok := good_ok hg
  refine ⟨?_, _, hop, hp, fun k hk => ?_⟩
  · unfold wonB at hp
    have h1 := near_nodes ok hop _ hp
    unfold winB
    have := ok.nk
    have := ok.s1
    rwa [show (m.size - 1).toNat = m.keys.length - 1 from by omega]
  · obtain ⟨j, hji, hje⟩ := par_take hpar i i (Nat.le_refl _) hi k hk
    have h' := hz.ok.all _ (hmem j (by omega))
    rw [hje] at h'
    refine ⟨_, h', hj j hji, ?_⟩
    obtain ⟨hx, h1⟩ := opn_at hop hk h'
    unfold hopeL keepL
    rw [List.mem_filter]
    refine ⟨hx, ?_⟩
    have h2 := still_pre hg hop hp (Z[i]!.1.length - (k + 1)) (k + 1) (by omega) _ h1
    simp only [h2, Bool.not_true, Bool.not_false]
theorem stuck_first {m : Mz} (hg : goodB m = true) {L : List Int} (h : fstE (srZ m) (stuckP m) = some L) : ∃ O, Opn m L O ∧ wonB m O = false ∧ nextL m O L = [] := by
  have hz := srZ_zok hg
  obtain ⟨Z, hZ⟩ : ∃ Z, Z = srZ m := ⟨_, rfl⟩
  rw [← hZ] at h hz
  clear hZ
  obtain ⟨i, hi, rfl, hp, -⟩ := find_some h
  have hop := hz.ok.all Z[i]! (by rw [getElem!_pos Z i hi]; exact List.getElem_mem hi)
  obtain ⟨h1, h2⟩ := stuck_of hg hop hp
  exact ⟨_, hop, h1, h2⟩
end Go.KD
